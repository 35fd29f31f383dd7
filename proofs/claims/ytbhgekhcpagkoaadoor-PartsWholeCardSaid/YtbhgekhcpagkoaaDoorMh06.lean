/- Texts of this proof, laid into one: HsB, HsC, Strs, HsD. -/
import Derived.Test.YtbhgekhcpagkoaaDoorMh05
import Derived.StillTailTactics
import Derived.Deep.MidRow
import Derived.Test.YtbhgekhcpagkoaaDoorShelf
/- (*hash).write: what is told, piece by piece. -/
set_option linter.unusedVariables false
namespace Go.Proofs.YtbhgekhcpagkoaaDoor
open Go Go.RowKit
theorem info5 : (Tryd.prog.info? 5).map (·.size) = some 1 := by kernel_rfl
theorem wpStill_load_mid {P : Program} {ops : Array Oper} {rest : List Oper} {o : Oper} {a : Act} {w : World} {R : Act → Prop} (hgd : o.guard = none) (ty : TypeId) (x : Operand) (ho : o.op = .load ty x)
    (b off : Nat) (hx : a.eval x = .pointer (some ⟨b, off, none⟩)) (cs : List Value) (d : TypeDesc) (hc : w.rangeAt b off cs) (hu : P.underlying ty = some d) (hd : d.isRow = true) (hi : (P.info? ty).map (·.size) = some cs.length)
    (h : wpStill P ops w R rest (a.put o.dst (.agg cs.toArray))) : wpStill P ops w R (o :: rest) a := by
  refine wpStill_step fun K hK => ?_
  rw [if_pos (by simp [Region.wanted, hgd])]
  unfold Oper.still execOp
  rw [ho]
  simp only [hx, Sem.run_bind, Sem.run_pure, run_loadAt_mid w b off ty cs d hc hu hd hi, Result.andThen_ok]
  rw [Oper.stillUpon_value]
  exact hK _ h
theorem take_len (l : List UInt8) (k : Nat) : l.take k = l.take (l.take k).length := by
  rw [List.length_take]
  rcases Nat.le_total k l.length with h | h
  · rw [Nat.min_eq_left h]
  · rw [Nat.min_eq_right h, List.take_length, List.take_of_length_le h]
def lenV : Value → Nat
  | .string s => s.size
  | _ => 0
theorem IntWalk_u64 (n : Int) : IntKind.u64.wrap n = n % 18446744073709551616 := by simp [IntKind.wrap, IntKind.bits, IntKind.signed]
theorem u64_len (a b : Nat) : (((a % 18446744073709551616 : Nat) : Int) + (b : Int)) % 18446744073709551616 = (((a + b) % 18446744073709551616 : Nat) : Int) := by omega
set_option maxRecDepth 100000 in
set_option maxHeartbeats 4000000 in
theorem write_any (A : Alg) (hb sb cap : Nat) (t p : List UInt8) (w : World) (h : ToldAt w A hb sb cap t) (hp : p.length ≤ 9223372036854775807) :
    Calls Tryd.prog 46 #[.pointer (some ⟨hb, 0, none⟩), .string ⟨p.toArray⟩] w fun e w' => e = .returned (.tuple #[]) ∧ ToldAt w' A hb sb cap (t ++ p) ∧ GX [hb, sb] w w' := by
  obtain ⟨⟨bl, hH, hbl⟩, hS, hne⟩ := h
  have hc := hH.c66
  have hf := hH.frozen 66
  have hw0 : IntKind.u64.wrap (((t.length % 18446744073709551616 : Nat) : Int) + (p.length : Int)) = (((t ++ p).length % 18446744073709551616 : Nat) : Int) := by
    rw [IntWalk_u64, List.length_append]; exact u64_len _ _
  have hS0 := HashAt.setSize hH ((t ++ p).length % 18446744073709551616)
  have HH : Hid (ToldZ (w.setCell ⟨hb, 66, none⟩ (.int .u64 (((t ++ p).length % 18446744073709551616 : Nat) : Int))) A hb sb cap t ((t ++ p).length % 18446744073709551616)) :=
    Lib.hid ⟨⟨bl, hS0, hbl⟩, ((GX.refl [hb] w).set (by simp) _ _).st (by simpa using hne) hS, hne⟩
  have HG : Hid (GX [hb, sb] w (w.setCell ⟨hb, 66, none⟩ (.int .u64 (((t ++ p).length % 18446744073709551616 : Nat) : Int)))) := Lib.hid ((GX.refl _ w).set (by simp) _ _)
  have HP : Hid (ToldAt (w.setCell ⟨hb, 66, none⟩ (.int .u64 (((t ++ p).length % 18446744073709551616 : Nat) : Int))) A hb sb cap (t ++ p) = ToldZ (w.setCell ⟨hb, 66, none⟩ (.int .u64 (((t ++ p).length % 18446744073709551616 : Nat) : Int))) A hb sb cap (t ++ p) ((t ++ p).length % 18446744073709551616)) := Lib.hid rfl
  have HT : Hid (∀ w' : World, ToldZ w' A hb sb cap (t ++ p) ((t ++ p).length % 18446744073709551616) → ToldAt w' A hb sb cap (t ++ p)) := Lib.hid fun w' h => h
  clear hH hS hbl hS0 HP
  generalize t.length % 18446744073709551616 = sz at *
  generalize (t ++ p).length % 18446744073709551616 = SZ at *
  go_enter Tryd.func46, Tryd.ntmps46
  go_wp2_with fail
  clear hw0 hc hf
  go_loopw [1] (fun q wr => ∃ r ql : List UInt8, p = r ++ ql ∧ q = .string ⟨ql.toArray⟩ ∧ ToldZ wr A hb sb cap (t ++ r) SZ ∧ GX [hb, sb] w wr) (fun q _ => lenV q)
  case atStart => exact ⟨[], p, rfl, rfl, by simpa using HH.out, HG.out⟩
  case round =>
    obtain ⟨r, ql, hpr, rfl, hT, hG⟩ := hrel
    have hql : ql.length ≤ 9223372036854775807 := by have : p.length = r.length + ql.length := by rw [hpr, List.length_append]
                                                     omega
    have HPR := Lib.hid hpr
    have HGG := Lib.hid hG
    clear hpr hG HH HG
    by_cases h0 : 0 < ql.length
    · obtain ⟨⟨bk, hH, hbk⟩, hS, _⟩ := hT
      have hm : (t ++ r).length % 64 < 64 := by omega
      have hc := hH.c65
      have hf := hH.frozen 65
      have hd0 : decide (0 < ql.length) = true := by simpa using h0
      generalize hM : (t ++ r).length % 64 = m at *
      have HM := Lib.hid hM
      have hsl := fun w => slice64 w hb 1 m m rfl hm
      have HB := Lib.hid hbk
      have HS := Lib.hid hS
      have HH := Lib.hid hH
      clear hM hbk hS hH
      go_wp2_with fail
      go_still_tail 9, (by kernel_rfl)
      change wpList _ _ _ _ _ wr.drew
      have hH := HH.out
      have hl64 := hH.2
      have hsz : 1 + m + (ql.take (64 - m)).length ≤ (hashL A sb cap bk m SZ).toArray.size := by simp [hashL, hl64]; omega
      refine wpList_copy_str rfl (.tmp 25) (.tmp 26) 74 9 5 rfl Tryd.underlying74 info5 hb (1 + m) (64 - m) (64 - m) rfl ql rfl _ 89 hH.1 (ql.take (64 - m)) rfl hsz ?_
      have hN0 : 0 < (ql.take (64 - m)).length := by rw [List.length_take]; omega
      have hN1 : (ql.take (64 - m)).length ≤ 64 - m := by rw [List.length_take]; omega
      have hN2 : (ql.take (64 - m)).length ≤ ql.length := by rw [List.length_take]; omega
      obtain ⟨N, hN⟩ : ∃ N, N = (ql.take (64 - m)).length := ⟨_, rfl⟩
      have hpq : ql.take (64 - m) = ql.take N := by rw [hN]; exact take_len ql (64 - m)
      obtain ⟨W2, hW2, hH2, hG2⟩ : ∃ W2, W2 = wr.drew.setRow hb ((hashL A sb cap bk m SZ).toArray.toList.take (1 + m) ++ Lib.byteCells (ql.take (64 - m)) ++ (hashL A sb cap bk m SZ).toArray.toList.drop (1 + m + (ql.take (64 - m)).length)).toArray ∧ HashAt W2 A hb sb cap (bk.take m ++ ql.take N ++ bk.drop (m + N)) m SZ ∧ GX [hb] wr W2 := by
        refine ⟨_, rfl, ?_, ((GX.refl _ wr).drew).setRow (by simp) _⟩
        have := HashAt.setBlock (w := wr.drew) hH m (ql.take (64 - m)) (by omega)
        rw [← hN, hpq] at this
        rw [← hN, hpq]
        exact this
      rw [← hW2]
      clear hW2
      rw [← hN] at hN0 hN1 hN2 ⊢
      have hS2 := hG2.st (by simpa using hne) HS.out
      have hG3 := HGG.out.trans (hG2.mono (by simp))
      clear hc hf
      have hc := hH2.c65
      have hf := hH2.frozen 65
      have HN := Lib.hid hN
      have HPQ := Lib.hid hpq
      have HS2 := Lib.hid hS2
      have HG3 := Lib.hid hG3
      have HH2 := Lib.hid hH2
      have HL := Lib.hid hl64
      clear hN hpq hS2 hG3 hH2 hG2 HS HGG HH hH hsl hl64 hsz
      by_cases h64 : m + N = 64
      · have hb64 : ((m : Int) + (N : Int) == 64) = true := by simp; omega
        go_wp2_with fail
        obtain ⟨W3, hW3, hH3, hG4, hS3⟩ : ∃ W3, W3 = W2.setCell ⟨hb, 65, none⟩ (.int .i64 ((m : Int) + (N : Int))) ∧ HashAt W3 A hb sb cap (bk.take m ++ ql.take N ++ bk.drop (m + N)) (m + N) SZ ∧ GX [hb, sb] w W3 ∧ StAt W3 sb (blocksA A (t ++ r) ((t ++ r).length / 64)) := by
          refine ⟨_, rfl, ?_, (HG3.out).set (by simp) _ _, ((GX.refl [hb] W2).set (by simp) _ _).st (by simpa using hne) HS2.out⟩
          have := HashAt.setMany HH2.out (m + N)
          rw [Int.natCast_add] at this
          exact this
        rw [← hW3]
        clear hW3 hc hf hb64 HS2 HG3 HH2
        have hc0 := hH3.c0
        have hc67 := hH3.c67
        have hrg : W3.drew.rangeAt hb 1 ((bk.take m ++ ql.take N ++ bk.drop (m + N)).map u8V) := by
          intro j v hj
          have e := hH3.cell (1 + j)
          rw [show 1 + j = j + 1 from by omega, hashL, List.getElem?_cons_succ, List.getElem?_append_left (by exact (List.getElem?_eq_some_iff.1 hj).1), hj] at e
          rw [show 1 + j = j + 1 from by omega]
          exact e
        have hbl64 := hH3.2
        refine wp_region_still_tail 12 (by kernel_rfl) (by kernel_rfl) ?_
        simp only [List.take_succ_cons, List.take_zero, List.drop_succ_cons, List.drop_zero]
        have HH3 := Lib.hid hH3
        have HG4 := Lib.hid hG4
        have HS3 := Lib.hid hS3
        have HBK := Lib.hid (rfl : bk.take m ++ ql.take N ++ bk.drop (m + N) = bk.take m ++ ql.take N ++ bk.drop (m + N))
        clear hG4 hS3
        revert HBK
        generalize hBK : bk.take m ++ ql.take N ++ bk.drop (m + N) = BK at *
        intro _
        have HBK := Lib.hid hBK
        have HR := Lib.hid hrg
        clear hH3 hrg hBK
        iterate 11 still_step
        refine wpStill_load_mid rfl 86 (.tmp 54) rfl hb 1 rfl _ _ HR.out Tryd.underlying86 rfl (by rw [List.length_map, hbl64]; kernel_rfl) ?_
        refine wpStill_nil ?_
        change wpList _ _ _ _ _ W3.drew
        have hG5 := HG4.out.drew
        have hS5 : StAt W3.drew sb (blocksA A (t ++ r) ((t ++ r).length / 64)) := HS3.out
        have hH5 : HashAt W3.drew A hb sb cap BK (m + N) SZ := HH3.out
        generalize W3.drew = W5 at *
        have HG5 := Lib.hid hG5
        have HS5 := Lib.hid hS5
        have HH5 := Lib.hid hH5
        clear hG5 hS5 hH5 HH3 HG4 HS3 HR hc0 hc67
        have hent := A.enters
        go_wp2_with fail
        clear hent
        refine (A.call sb cap (blocksA A (t ++ r) ((t ++ r).length / 64)) BK _ (blocksA_length _ _ _) hbl64 HS5.out).mono ?_
        rintro e w6 ⟨rfl, hS6, hg6⟩
        have hG6 := HG5.out.trans (GX.gb hg6 (by simp))
        have hH6 := HH5.out.x (GX.gb (S := [sb]) hg6 (by simp)) (by simpa using Ne.symm hne)
        have hc := hH6.c65
        have hf := hH6.frozen 65
        have HG6 := Lib.hid hG6
        have HS6 := Lib.hid hS6
        have HH6 := Lib.hid hH6
        clear hG6 hS6 hH6 hg6 HG5 HS5 HH5 hbl64
        go_wp2_with fail
        go_roundw
        case rel =>
          refine ⟨r ++ ql.take N, ql.drop N, by rw [HPR.out]; simp, by rw [sub_all], ?_, HG6.out.set (by simp) _ _⟩
          rw [← List.append_assoc]
          have hm1 := HM.out
          exact toldz_full (t ++ r) ql N (by rw [hm1]; exact h64) hN2 bk BK HL.out (by rw [hm1]; exact HB.out) (by rw [hm1]; exact HBK.out) (HashAt.setMany HH6.out 0)
            (((GX.refl [hb] w6).set (by simp) _ _).st (by simpa using hne) HS6.out) hne
        case measure => show (sub ql N ql.length).length < ql.length; rw [length_sub]; omega
      · have hb64 : ((m : Int) + (N : Int) == 64) = false := by simp; omega
        go_wp2_with fail
        go_roundw
        case rel =>
          refine ⟨r ++ ql.take N, ql.drop N, by rw [HPR.out]; simp, by rw [sub_all], ?_, HG3.out.set (by simp) _ _⟩
          rw [← List.append_assoc]
          have hm1 := HM.out
          have hH9 := HashAt.setMany HH2.out (m + N)
          rw [Int.natCast_add] at hH9
          exact toldz_part (t ++ r) ql N (by rw [hm1]; omega) hN2 bk HL.out (by rw [hm1]; exact HB.out) (by rw [hm1]; exact hH9)
            (((GX.refl [hb] W2).set (by simp) _ _).st (by simpa using hne) HS2.out) hne
        case measure => show (sub ql N ql.length).length < ql.length; rw [length_sub]; omega
    · have hql0 : ql = [] := List.eq_nil_of_length_eq_zero (by omega)
      subst hql0
      have hd0 : decide (0 < ([] : List UInt8).length) = false := rfl
      have HTT := Lib.hid hT
      clear hT
      go_wp2_with fail
      go_end0
      refine ⟨rfl, HT.out _ ?_, HGG.out⟩
      have := HTT.out
      rw [HPR.out, List.append_nil]
      exact this
end Go.Proofs.YtbhgekhcpagkoaaDoor
/- (*hash).bytes: a number as bytes. -/
set_option linter.unusedVariables false
namespace Go.Proofs.YtbhgekhcpagkoaaDoor
open Go Go.RowKit
/-- A row of bytes in a block of its own. -/
def RowB (w : World) (g : Nat) (b : List UInt8) : Prop := w.heap[g]? = some (.cells (arrB b) 5 (0, 0))
theorem RowB.set {w : World} {g : Nat} {b : List UInt8} (h : RowB w g b) (i : Nat) (x : UInt8) : RowB (w.setCell ⟨g, i, none⟩ (.int .u8 (x.toNat : Int))) g (b.set i x) := by
  unfold RowB
  rw [heap_setCell_same w g i _ _ _ h]
  congr 2
  unfold arrB
  rw [← Array.toList_inj]
  simp [u8V, List.map_set]
theorem RowB.cell {w : World} {g : Nat} {b : List UInt8} (h : RowB w g b) (i : Nat) (hi : i < b.length) : w.cell? ⟨g, i, none⟩ = some (.int .u8 ((gB b i).toNat : Int)) := by
  rw [cell_of_row _ _ _ _ _ _ h]
  simp [arrB, u8V, gB, List.getD, hi]
theorem RowB.frozen {w : World} {g : Nat} {b : List UInt8} (h : RowB w g b) (i : Nat) : w.frozen? ⟨g, i, none⟩ = false := frozen_of_row w g i _ _ h
theorem RowB.q {w w' : World} {g : Nat} {b : List UInt8} (h : RowB w g b) (hq : Q w w') : RowB w' g b := hq.block h
theorem RowB.new (w : World) (b : List UInt8) : RowB (w.alloc (.cells (arrB b) 5)) w.heap.size b := heap_alloc_new w _
theorem made_bytes (n : Nat) : madeCells #[Value.int .u8 0] n = arrB (List.replicate n 0) := by
  unfold madeCells arrB
  rw [← Array.toList_inj]
  apply List.ext_getElem
  · simp
  · intro i h1 h2
    simp [u8V, Nat.mod_one]
theorem mkBytes (n : Nat) (w : World) (hn : n ≤ 140737488355328) : (Instr.makeSlice 74 (.int .i64 (n : Int)) (.int .i64 (n : Int))).run Tryd.prog w = .ok (.slice (some ⟨w.heap.size, 0, none⟩) n n) (w.alloc (.cells (arrB (List.replicate n 0)) 5)) := by
  have hI : (Tryd.prog.info? 5).map (fun i => (i.zero, i.size, i.bytes)) = some (some (.int .u8 0), 1, 1) := by kernel_rfl
  obtain ⟨i, hi, hz, hsz, hby⟩ := info_parts hI
  have h := run_make w 74 5 i _ Tryd.underlying74 hi hz .i64 .i64 (n : Int) (n : Int) (by omega) (by omega) (by rw [hby]; omega) (by omega)
  rw [h, hsz]
  simp only [Int.toNat_natCast, Nat.mul_one]
  rw [show (Value.int IntKind.u8 0).cells = #[Value.int .u8 0] from rfl, made_bytes]
theorem mapRange_set {α : Type} (m i : Nat) (f : Nat → α) (v : α) : ((List.range m).map f).set i v = (List.range m).map fun j => if j = i then v else f j := by
  apply List.ext_getElem
  · simp
  · intro j h1 h2
    simp only [List.getElem_set, List.getElem_map, List.getElem_range]
    by_cases e : i = j
    · rw [if_pos e, if_pos e.symm]
    · rw [if_neg e, if_neg (fun h => e h.symm)]
theorem conv_row (w : World) (g : Nat) (b : List UInt8) (cap : Nat) (h : RowB w g b) : (convert 74 9 (.slice (some ⟨g, 0, none⟩) b.length cap)).run Tryd.prog w = .ok (.string ⟨b.toArray⟩) w := by
  refine run_convert_bytes_back (P := Tryd.prog) w 74 9 5 ⟨g, 0, none⟩ cap b Tryd.underlying74 Tryd.underlying5 Tryd.underlying9 ?_
  intro i hi
  rw [add_off, Nat.zero_add, h.cell i hi]
  simp [gB, List.getD, hi]
/-- A byte of a number. -/
def byN (n i : Nat) : UInt8 := byteOf ((n / 256 ^ i % 256 : Nat) : Int)
def bytesL (hi : Bool) (n many : Nat) : List UInt8 := if hi then (List.range many).map fun j => byN n (many - 1 - j) else (List.range many).map fun j => byN n j
theorem shr8 (n i : Nat) : (n : Int) / 2 ^ (8 * i) % 256 = ((byN n i).toNat : Int) := by
  unfold byN
  rw [byteOf_int _ (by omega) (by omega)]
  rw [show ((2 : Int) ^ (8 * i)) = ((256 ^ i : Nat) : Int) from by rw [show (256 : Nat) = 2 ^ 8 from rfl, ← Nat.pow_mul]; simp]
  omega
theorem map_zero (n : Nat) : (List.range n).map (fun _ => (0 : UInt8)) = List.replicate n 0 := by
  apply List.ext_getElem <;> simp
set_option maxRecDepth 100000 in
set_option maxHeartbeats 4000000 in
theorem bytes_lo (hb n many : Nat) (w : World) (hc : w.cell? ⟨hb, 68, none⟩ = some (.bool false)) (hn : n < 18446744073709551616) (hm : many ≤ 8) :
    Calls Tryd.prog 57 #[.pointer (some ⟨hb, 0, none⟩), .int .u64 (n : Int), .int .i64 (many : Int)] w fun e w' => e = .returned (.string ⟨(bytesL false n many).toArray⟩) ∧ Q w w' := by
  have hmk := fun w => mkBytes many w (by omega)
  go_enter Tryd.func57, Tryd.ntmps57
  go_wp2_with fail
  clear hmk
  have hlt0 : hb < w.heap.size := lt_of_cell hc
  have hc1 := ((Q.refl w).alloc (.cells (arrB (List.replicate many 0)) 5)).cell hc
  have hR0 := RowB.new w (List.replicate many 0)
  have HQ := Lib.hid ((Q.refl w).alloc (.cells (arrB (List.replicate many 0)) 5))
  generalize w.alloc (.cells (arrB (List.replicate many 0)) 5) = w1 at *
  have HR := Lib.hid hR0
  have HC := Lib.hid hc1
  clear hR0 hc1 hc
  go_loopw [14] (fun i wr => ∃ k : Nat, k ≤ many ∧ i = .int .i64 k ∧ RowB wr w.heap.size ((List.range many).map fun j => if j < k then byN n j else 0) ∧ Q w wr ∧ wr.cell? ⟨hb, 68, none⟩ = some (.bool false)) (fun i _ => many - (intOf i).toNat)
  case atStart => exact ⟨0, by omega, rfl, by simpa [map_zero] using HR.out, HQ.out, HC.out⟩
  case round =>
    obtain ⟨k, hk, rfl, hR, hq, hc⟩ := hrel
    by_cases hlt : k < many
    · have hd : decide (k < many) = true := by simpa using hlt
      have hcl := hR.cell k (by simpa using hlt)
      have hf := hR.frozen k
      have HRR := Lib.hid hR
      have HQQ := Lib.hid hq
      have HCC := Lib.hid hc
      clear hR hq HR HQ HC
      go_wp2_with fail
      go_roundw
      case rel =>
        refine ⟨k + 1, by omega, by go_num, ?_, Q.setNew HQQ.out (Nat.le_refl _) _, ?_⟩
        · have h1 := HRR.out.set k (byN n k)
          rw [mapRange_set] at h1
          rw [shr8]
          have e : (List.range many).map (fun j => if j < k + 1 then byN n j else 0) = (List.range many).map (fun j => if j = k then byN n k else if j < k then byN n j else 0) := by
            apply List.map_congr_left
            intro j _
            by_cases hj : j = k
            · rw [if_pos (by omega), if_pos hj, hj]
            · rw [if_neg hj]
              by_cases hj2 : j < k
              · rw [if_pos (by omega), if_pos hj2]
              · rw [if_neg (by omega), if_neg hj2]
          rw [e]
          exact h1
        · rw [World.cell?_setCell_other wr _ _ _ (by intro e; have := congrArg Addr.block e; simp only at this; omega)]
          exact HCC.out
      case measure => simp [intOf]; omega
    · obtain rfl : k = many := by omega
      have hd : decide (k < k) = false := by simp
      have e : (List.range k).map (fun j => if j < k then byN n j else 0) = bytesL false n k := by
        unfold bytesL
        rw [if_neg (by decide)]
        apply List.map_congr_left
        intro j hj
        rw [if_pos (List.mem_range.1 hj)]
      rw [e] at hR
      have hlen : (bytesL false n k).length = k := by unfold bytesL; simp
      have hcv := conv_row wr w.heap.size _ k hR
      rw [hlen] at hcv
      have HQQ := Lib.hid hq
      clear hR hq hc HR HQ HC hlen e
      go_wp2_with fail
      go_ret
      exact ⟨rfl, HQQ.out⟩
set_option maxRecDepth 100000 in
set_option maxHeartbeats 4000000 in
theorem bytes_hi (hb n many : Nat) (w : World) (hc : w.cell? ⟨hb, 68, none⟩ = some (.bool true)) (hn : n < 18446744073709551616) (hm : many ≤ 8) :
    Calls Tryd.prog 57 #[.pointer (some ⟨hb, 0, none⟩), .int .u64 (n : Int), .int .i64 (many : Int)] w fun e w' => e = .returned (.string ⟨(bytesL true n many).toArray⟩) ∧ Q w w' := by
  have hmk := fun w => mkBytes many w (by omega)
  go_enter Tryd.func57, Tryd.ntmps57
  go_wp2_with fail
  clear hmk
  have hlt0 : hb < w.heap.size := lt_of_cell hc
  have hc1 := ((Q.refl w).alloc (.cells (arrB (List.replicate many 0)) 5)).cell hc
  have hR0 := RowB.new w (List.replicate many 0)
  have HQ := Lib.hid ((Q.refl w).alloc (.cells (arrB (List.replicate many 0)) 5))
  generalize w.alloc (.cells (arrB (List.replicate many 0)) 5) = w1 at *
  have HR := Lib.hid hR0
  have HC := Lib.hid hc1
  clear hR0 hc1 hc
  go_loopw [14] (fun i wr => ∃ k : Nat, k ≤ many ∧ i = .int .i64 k ∧ RowB wr w.heap.size ((List.range many).map fun j => if many - k ≤ j then byN n (many - 1 - j) else 0) ∧ Q w wr ∧ wr.cell? ⟨hb, 68, none⟩ = some (.bool true)) (fun i _ => many - (intOf i).toNat)
  case atStart => exact ⟨0, by omega, rfl, by rw [show (List.range many).map (fun j => if many - 0 ≤ j then byN n (many - 1 - j) else 0) = List.replicate many 0 from by rw [← map_zero]; exact List.map_congr_left fun j hj => if_neg (by have := List.mem_range.1 hj; omega)]; exact HR.out, HQ.out, HC.out⟩
  case round =>
    obtain ⟨k, hk, rfl, hR, hq, hc⟩ := hrel
    by_cases hlt : k < many
    · have hd : decide (k < many) = true := by simpa using hlt
      have hcl := hR.cell (many - 1 - k) (by simp; omega)
      have hf := hR.frozen (many - 1 - k)
      have HRR := Lib.hid hR
      have HQQ := Lib.hid hq
      have HCC := Lib.hid hc
      clear hR hq HR HQ HC
      go_wp2_with fail
      go_roundw
      case rel =>
        refine ⟨k + 1, by omega, by go_num, ?_, Q.setNew HQQ.out (Nat.le_refl _) _, ?_⟩
        · have h1 := HRR.out.set (many - 1 - k) (byN n k)
          rw [mapRange_set] at h1
          rw [shr8]
          have e : (List.range many).map (fun j => if many - (k + 1) ≤ j then byN n (many - 1 - j) else 0) = (List.range many).map (fun j => if j = many - 1 - k then byN n k else if many - k ≤ j then byN n (many - 1 - j) else 0) := by
            apply List.map_congr_left
            intro j hj0
            have hjm := List.mem_range.1 hj0
            by_cases hj : j = many - 1 - k
            · rw [if_pos (by omega), if_pos hj, hj, show many - 1 - (many - 1 - k) = k from by omega]
            · rw [if_neg hj]
              by_cases hj2 : many - k ≤ j
              · rw [if_pos (by omega), if_pos hj2]
              · rw [if_neg (by omega), if_neg hj2]
          rw [e]
          exact h1
        · rw [World.cell?_setCell_other wr _ _ _ (by intro e; have := congrArg Addr.block e; simp only at this; omega)]
          exact HCC.out
      case measure => simp [intOf]; omega
    · obtain rfl : k = many := by omega
      have hd : decide (k < k) = false := by simp
      have e : (List.range k).map (fun j => if k - k ≤ j then byN n (k - 1 - j) else 0) = bytesL true n k := by
        unfold bytesL
        rw [if_pos rfl]
        apply List.map_congr_left
        intro j hj
        rw [if_pos (by omega)]
      rw [e] at hR
      have hlen : (bytesL true n k).length = k := by unfold bytesL; simp
      have hcv := conv_row wr w.heap.size _ k hR
      rw [hlen] at hcv
      have HQQ := Lib.hid hq
      clear hR hq hc HR HQ HC hlen e
      go_wp2_with fail
      go_ret
      exact ⟨rfl, HQQ.out⟩
theorem bytes_any (hi : Bool) (hb n many : Nat) (w : World) (hc : w.cell? ⟨hb, 68, none⟩ = some (.bool hi)) (hn : n < 18446744073709551616) (hm : many ≤ 8) :
    Calls Tryd.prog 57 #[.pointer (some ⟨hb, 0, none⟩), .int .u64 (n : Int), .int .i64 (many : Int)] w fun e w' => e = .returned (.string ⟨(bytesL hi n many).toArray⟩) ∧ Q w w' := by
  cases hi
  · exact bytes_lo hb n many w hc hn hm
  · exact bytes_hi hb n many w hc hn hm
theorem bytes8_any (hi : Bool) (hb n : Nat) (w : World) (hc : w.cell? ⟨hb, 68, none⟩ = some (.bool hi)) (hn : n < 18446744073709551616) :
    Calls Tryd.prog 57 #[.pointer (some ⟨hb, 0, none⟩), .int .u64 (n : Int), .int .i64 8] w fun e w' => e = .returned (.string ⟨(bytesL hi n 8).toArray⟩) ∧ Q w w' := bytes_any hi hb n 8 w hc hn (by decide)
theorem bytes4_any (hi : Bool) (hb n : Nat) (w : World) (hc : w.cell? ⟨hb, 68, none⟩ = some (.bool hi)) (hn : n < 18446744073709551616) :
    Calls Tryd.prog 57 #[.pointer (some ⟨hb, 0, none⟩), .int .u64 (n : Int), .int .i64 4] w fun e w' => e = .returned (.string ⟨(bytesL hi n 4).toArray⟩) ∧ Q w w' := bytes_any hi hb n 4 w hc hn (by decide)
end Go.Proofs.YtbhgekhcpagkoaaDoor
/- A slice of strings as a list of texts; a strings.Builder as the bytes that it holds. -/
set_option linter.unusedVariables false
namespace Go.Proofs.YtbhgekhcpagkoaaDoor
open Go Go.RowKit

/-- The slice holds these texts. -/
def StrsAt (w : World) (A : Option Addr) (n : Nat) (ls : List (List UInt8)) : Prop :=
  n = ls.length ∧ (0 < n → ∃ ad, A = some ad ∧ ∀ i (h : i < ls.length), w.cell? (ad.add i) = some (.string ⟨(ls[i]).toArray⟩))
theorem StrsAt.q {w w' : World} {A : Option Addr} {n : Nat} {ls : List (List UInt8)} (h : StrsAt w A n ls) (hq : Q w w') : StrsAt w' A n ls :=
  ⟨h.1, fun h0 => let ⟨ad, e, hc⟩ := h.2 h0; ⟨ad, e, fun i hi => hq.cell (hc i hi)⟩⟩
/-- The text at a place. -/
def gL (ls : List (List UInt8)) (i : Nat) : List UInt8 := ls.getD i []
theorem StrsAt.at {w : World} {A : Option Addr} {n : Nat} {ls : List (List UInt8)} (h : StrsAt w A n ls) {i : Nat} (hi : i < n) :
    ∃ ad, A = some ad ∧ w.cell? (ad.add i) = some (.string ⟨(gL ls i).toArray⟩) := by
  obtain ⟨ad, e, hc⟩ := h.2 (by omega)
  have hi' : i < ls.length := by rw [← h.1]; exact hi
  exact ⟨ad, e, by rw [hc i hi']; simp [gL, List.getD, hi']⟩

/-- The row of a type whose values are one cell: its zero value, its bytes. -/
structure OneCell (P : Program) (t e : TypeId) (z : Value) (bytes : Nat) : Prop where
  under : P.underlying t = some (.slice e)
  info : (P.info? e).map (fun i => (i.zero, i.size, i.bytes)) = some (some z, 1, bytes)
  zsize : z.cells.size = 1
/-- A slice that the call has made since w0, of one-cell elements: it holds these. -/
def OwnS (e : TypeId) (w0 w : World) (v : Value) (us : List Value) : Prop := w.ownsRow w0.heap.size e 1 v us.length us
theorem OwnS.nil (e : TypeId) (w0 w : World) : OwnS e w0 w (.slice none 0 0) [] := ⟨rfl, .inl ⟨rfl, rfl⟩⟩
theorem OwnS.q {e : TypeId} {w0 w w' : World} {v : Value} {us : List Value} (h : OwnS e w0 w v us) (hq : Q w w') : OwnS e w0 w' v us := by
  have hg : w.grownBy w' none := ⟨hq.os, hq.tape, hq.output, hq.size, fun k hk _ => Below.block hq k hk⟩
  refine h.kept hg ?_
  rcases hv : v.ownBlock with _ | k
  · exact .inl rfl
  · exact .inr (by simp)
theorem OwnS.block {e : TypeId} {w0 w : World} {v : Value} {us : List Value} (h : OwnS e w0 w v us) {k : Nat} (hk : v.ownBlock = some k) : w0.heap.size ≤ k := by
  rcases h.2 with ⟨rfl, _⟩ | ⟨g, cap, cur, rfl, hb, _⟩
  · cases hk
  · simp [Value.ownBlock] at hk; omega
/-- append of one element to such a slice. -/
theorem wpList_append_one {P : Program} {ops : Array Oper} {rest : List Oper} {o : Oper} {a : Act} {R : Exit → Act → World → Prop} (hgd : o.guard = none) (s x : Operand) (t e : TypeId) (z : Value) (bytes : Nat) (hc : OneCell P t e z bytes)
    (ho : o.op = .call { callee := .builtin .append, args := #[s, x], argTypes := #[t, t] })
    (w0 W : World) (v u : Value) (us : List Value) (hs : a.eval s = v) (hown : OwnS e w0 W v us) (hx : a.eval x = .slice (some ⟨W.heap.size, 0, none⟩) 1 1) (h1 : u.oneCell' = true) (hw0 : w0.heap.size ≤ W.heap.size)
    (hl : us.length + 1 ≤ maxLen) (hbytes : (us.length + 1) * bytes ≤ 140737488355328)
    (h : ∀ v' w', OwnS e w0 w' v' (us ++ [u]) → Below w0.heap.size W w' → wpList P ops R rest (a.put o.dst v') w') : wpList P ops R (o :: rest) a (W.alloc (.cells #[u] e)) := by
  obtain ⟨i, hi, hz, hsz, hby⟩ := info_parts hc.info
  refine wpList_append_own (w := W.alloc (.cells #[u] e)) hgd s x t ho w0.heap.size e i z 1 bytes hc.under hi hz hsz hby hc.zsize (by decide) v us.length us hs (World.ownsRow.alloc hown _) ⟨W.heap.size, 0, none⟩ 1 1 [u] hx rfl ?_ (by simpa using h1) hl hbytes (by simp; omega) ?_
  · intro j y hj
    rcases j with _ | j
    · simp at hj; subst hj
      have e2 : (W.alloc (.cells #[u] e)).heap[W.heap.size]? = some (.cells #[u] e) := (MapKept.heap_alloc W _).1
      have ea : (Addr.add ⟨W.heap.size, 0, none⟩ 0) = ⟨W.heap.size, 0, none⟩ := rfl
      rw [ea]
      unfold World.cell?
      rw [e2]
      rfl
    · simp at hj
  · intro v' w' h2 hg _
    refine h v' w' (by unfold OwnS; simpa using h2) ?_
    exact ((Below.refl _ _).alloc hw0 _).grown hg (by simp; omega) fun k hk => hown.block hk
theorem OwnS.form {e : TypeId} {w0 w : World} {v : Value} {us : List Value} (h : OwnS e w0 w v us) :
    ∃ A cap, v = .slice A us.length cap ∧ us.length ≤ cap ∧ cap ≤ maxLen ∧ ∀ i (hi : i < us.length), ∃ ad, A = some ad ∧ w0.heap.size ≤ ad.block ∧ w.cell? (ad.add i) = some us[i] := by
  rcases h.2 with ⟨rfl, h0⟩ | ⟨g, cap, cur, rfl, hb, hh, hn, hm, hcs, ht⟩
  · exact ⟨none, 0, by rw [h0], by omega, by omega, fun i hi => by omega⟩
  · refine ⟨_, cap, rfl, hn, hm, fun i hi => ⟨_, rfl, hb, ?_⟩⟩
    have ea : (Addr.add ⟨g, 0, none⟩ i) = ⟨g, i, none⟩ := by unfold Addr.add; split <;> simp_all
    have hi' : i < cur.size := by omega
    rw [ea]
    simp only [World.cell?, hh, Option.isSome_none, Bool.false_eq_true, if_false]
    have : us[i]? = cur.toList[i]? := by rw [← ht, List.getElem?_take, if_pos (by omega)]
    rw [List.getElem?_eq_getElem hi] at this
    rw [this]; simp
def strV (l : List UInt8) : Value := .string ⟨l.toArray⟩
theorem OwnS.strs {e : TypeId} {w0 w : World} {v : Value} {ls : List (List UInt8)} (h : OwnS e w0 w v (ls.map strV)) :
    ∃ A cap, v = .slice A ls.length cap ∧ ls.length ≤ cap ∧ cap ≤ maxLen ∧ StrsAt w A ls.length ls := by
  obtain ⟨A, cap, hv, h1, h2, h3⟩ := h.form
  simp only [List.length_map] at hv h1 h3
  refine ⟨A, cap, hv, h1, h2, rfl, fun h0 => ?_⟩
  obtain ⟨ad, rfl, _, _⟩ := h3 0 h0
  refine ⟨ad, rfl, fun i hi => ?_⟩
  obtain ⟨ad', e1, _, hc⟩ := h3 i hi
  cases e1
  simpa [strV] using hc
theorem StrsAt_new (W : World) (e : TypeId) (ls : List (List UInt8)) : StrsAt (W.alloc (.cells (ls.map strV).toArray e)) (some ⟨W.heap.size, 0, none⟩) ls.length ls := by
  refine ⟨rfl, fun _ => ⟨_, rfl, fun i hi => ?_⟩⟩
  have ea : (Addr.add ⟨W.heap.size, 0, none⟩ i) = ⟨W.heap.size, i, none⟩ := by unfold Addr.add; split <;> simp_all
  have e2 : (W.alloc (.cells (ls.map strV).toArray e)).heap[W.heap.size]? = some (.cells (ls.map strV).toArray e) := (MapKept.heap_alloc W _).1
  rw [ea]
  unfold World.cell?
  rw [e2]
  simp [strV, hi]

/-- A Builder in block b, laid since w0: it holds these bytes. -/
def BldAt (w0 w : World) (b : Nat) (l : List UInt8) : Prop := Lib.IsBuilder 102 5 w0.heap.size b (Lib.byteCells l) w
theorem infoBuilder : Builder.Extra Tryd.prog lays166_ren := {
  sizeBuilder := by kernel_rfl
  liesBuilder := by kernel_rfl
  t5 := Tryd.underlying5
  a5 := Tryd.isAgg5
  z5 := Tryd.sizeOf5
  v5 := Tryd.zeroValue5
  infoByte := by kernel_rfl
  cellsByte := by kernel_rfl
  sizeByte := by kernel_rfl
  neB5 := by decide }
theorem byteCells_append (a b : List UInt8) : Lib.byteCells (a ++ b) = Lib.byteCells a ++ Lib.byteCells b := by unfold Lib.byteCells; simp
theorem strCells_list (b : List UInt8) : Lib.strCells ⟨b.toArray⟩ = Lib.byteCells b := by unfold Lib.strCells Lib.byteCells; simp
theorem byteCells_length (a : List UInt8) : (Lib.byteCells a).length = a.length := by unfold Lib.byteCells; simp

theorem BldAt.q {w0 w w' : World} {b : Nat} {l : List UInt8} (h : BldAt w0 w b l) (hq : Q w w') : BldAt w0 w' b l := by
  have hg : w.grownBy w' none := ⟨hq.os, hq.tape, hq.output, hq.size, fun k hk _ => Below.block hq k hk⟩
  have go : ∀ p, Lib.BuilderAt 102 5 w0.heap.size b p (Lib.byteCells l) w → Lib.BuilderAt 102 5 w0.heap.size b p (Lib.byteCells l) w' := by
    rintro p ⟨h1, v, h2, h3, h4⟩
    refine ⟨h1, v, hq.block h2, h3.kept hg ?_, h4⟩
    rcases hv : v.ownBlock with _ | k
    · exact .inl rfl
    · exact .inr (by simp)
  rcases h with h | h
  · exact .inl (go _ h)
  · exact .inr (go _ h)
theorem bldWrite {w0 : World} (b : Nat) (l s : List UInt8) (w : World) (h : BldAt w0 w b l) (hq : w0.heap.size ≤ w.heap.size) (hl : l.length + s.length ≤ 140737488355328) :
    Calls Tryd.prog 66 #[.pointer (some ⟨b, 0, none⟩), .string ⟨s.toArray⟩] w fun e w' => e = .returned (.tuple #[.int .i64 s.length, .nilIface]) ∧ BldAt w0 w' b (l ++ s) ∧ Below w0.heap.size w w' :=
  (Any.Builder_WriteString lays166 infoBuilder w0.heap.size b (Lib.byteCells l) ⟨s.toArray⟩ w h (by rw [byteCells_length]; exact hl) hq).mono fun e w' ⟨h1, h2, h3⟩ =>
    ⟨h1, .inr (by rw [byteCells_append, ← strCells_list s]; exact h2), h3⟩
theorem bldString {w0 : World} (b : Nat) (l : List UInt8) (w : World) (h : BldAt w0 w b l) (hq : w0.heap.size ≤ w.heap.size) :
    Calls Tryd.prog 68 #[.pointer (some ⟨b, 0, none⟩)] w fun e w' => e = .returned (.string ⟨l.toArray⟩) ∧ Below w0.heap.size w w' :=
  Tryd.Builder_String_any w0.heap.size b l w h hq
theorem bldNew (w0 w : World) (hq : w0.heap.size ≤ w.heap.size) : BldAt w0 (w.alloc (.cells #[.pointer none, .slice none 0 0] 102)) w.heap.size [] :=
  .inl ⟨hq, .slice none 0 0, (MapKept.heap_alloc w _).1, ⟨by simp [Lib.byteCells], .inl ⟨rfl, rfl⟩⟩, by simp [Value.ownBlock]⟩
end Go.Proofs.YtbhgekhcpagkoaaDoor
/- (*hash).sum. -/
set_option linter.unusedVariables false
namespace Go.Proofs.YtbhgekhcpagkoaaDoor
open Go Go.RowKit
theorem und107 : (Tryd.prog.info? 89).map (·.size) = some 69 := by kernel_rfl
theorem hashL_size {bl : List UInt8} (h : bl.length = 64) (A : Alg) (sb cap many size : Nat) : (hashL A sb cap bl many size).toArray.size = 69 := by simp [hashL, h]
theorem hashL_one (A : Alg) (sb cap many size : Nat) (bl : List UInt8) : (hashL A sb cap bl many size).toArray.all (·.oneCell') = true := by
  rw [Array.all_eq_true_iff_forall_mem]
  intro v hv
  simp only [hashL, List.mem_toArray, List.mem_cons, List.mem_append, List.mem_map, List.not_mem_nil, or_false] at hv
  rcases hv with rfl | ⟨x, _, rfl⟩ | rfl | rfl | rfl | rfl <;> rfl
/-- The worlds behind the copy of the struct. -/
theorem sum_start (w : World) (A : Alg) (sb cap many size : Nat) (bl : List UInt8) (hb : bl.length = 64) (cs : Array Value) :
    ∃ w3, w3 = (w.alloc (.cells cs 89)).setRow w.heap.size (hashL A sb cap bl many size).toArray ∧ w3.heap.size = w.heap.size + 1 ∧ HashAt w3 A w.heap.size sb cap bl many size ∧ Q w w3 := by
  refine ⟨_, rfl, by simp, ⟨?_, hb⟩, Q.setRow ((Q.refl w).alloc _) (Nat.le_refl _) _⟩
  simp only [World.setRow, Array.getElem?_modify, if_true]
  rw [heap_alloc_new]
  rfl
theorem HashAt.setState {w : World} {A : Alg} {hb sb cap : Nat} {bl : List UInt8} {many size : Nat} (h : HashAt w A hb sb cap bl many size) (sb' cap' : Nat) : HashAt (w.setCell ⟨hb, 0, none⟩ (.slice (some ⟨sb', 0, none⟩) A.n cap')) A hb sb' cap' bl many size := by
  refine ⟨?_, h.2⟩
  rw [heap_setCell_same w hb 0 _ _ _ h.1]
  congr 2
def outW (hi : Bool) (x : B32) : List UInt8 := bytesL hi x.toNat 4
def padA (hi : Bool) (t : List UInt8) : List UInt8 := t ++ 128 :: List.replicate ((119 - t.length % 64) % 64) 0 ++ bytesL hi (8 * t.length % 18446744073709551616) 8
/-- The sum of a text. -/
def sumA (A : Alg) (t : List UInt8) : List UInt8 := (blocksA A (padA A.hi t) ((padA A.hi t).length / 64)).flatMap (outW A.hi)
theorem bytesL_length (hi : Bool) (n m : Nat) : (bytesL hi n m).length = m := by unfold bytesL; split <;> simp
theorem flat_length (hi : Bool) (l : List B32) : (l.flatMap (outW hi)).length = 4 * l.length := by
  induction l with
  | nil => rfl
  | cons a t ih => simp only [List.flatMap_cons, List.length_append, ih, outW, bytesL_length, List.length_cons]; omega
theorem sumA_length (A : Alg) (t : List UInt8) : (sumA A t).length = 4 * A.n := by unfold sumA; rw [flat_length, blocksA_length]
theorem info32 : (Tryd.prog.info? 78).map (fun i => (i.zero, i.size, i.bytes)) = some (some (.int .u32 0), 1, 4) := by kernel_rfl
theorem st_news {w : World} {g : Nat} {l : List B32} (h : StAt w g l) : ∀ j u, (l.map u32V)[j]? = some u → w.cell? ((⟨g, 0, none⟩ : Addr).add j) = some u := by
  intro j u hu
  have hj : j < l.length := by have := (List.getElem?_eq_some_iff.1 hu).1; simpa using this
  rw [add_off, Nat.zero_add, (h j hj).1]
  rw [List.getElem?_map, List.getElem?_eq_getElem hj] at hu
  simp only [Option.map_some, Option.some.injEq] at hu
  rw [← hu]
  simp [u32V, gW, List.getD, hj]
theorem gb_q {a b : World} (h : a.grownBy b none) : Q a b := ⟨h.os, h.tape, h.output, h.size, fun k hk => h.block k hk (by simp)⟩
theorem rep_zero (c : Nat) : Lib.repeatL [0] c = List.replicate c 0 := by
  induction c with
  | zero => rfl
  | succ c ih => rw [Lib.repeatL, ih]; rfl
theorem u32_one (l : List B32) : ∀ u ∈ l.map u32V, u.oneCell' = true := by
  intro u hu
  obtain ⟨x, _, rfl⟩ := List.mem_map.1 hu
  rfl
/-- A row that append has laid holds the words. -/
theorem st_own {w : World} {base : Nat} {e : TypeId} {v : Value} {l : List B32} (h : w.ownsRow base e 1 v l.length (l.map u32V)) (hl : 0 < l.length) :
    ∃ g cap, v = .slice (some ⟨g, 0, none⟩) l.length cap ∧ base ≤ g ∧ StAt w g l := by
  rcases h.2 with ⟨_, h0⟩ | ⟨g, cap, cur, rfl, hb, hh, hn, hm, hcs, ht⟩
  · omega
  · refine ⟨g, cap, rfl, hb, fun i hi => ⟨?_, frozen_of_row w g i _ _ hh⟩⟩
    rw [cell_of_row _ _ _ _ _ _ hh]
    have : (l.map u32V)[i]? = cur.toList[i]? := by rw [← ht, List.getElem?_take, if_pos (by omega)]
    rw [List.getElem?_map, List.getElem?_eq_getElem hi] at this
    rw [Array.getElem?_toList] at this
    rw [← this]
    simp [u32V, gW, List.getD, hi]
set_option maxRecDepth 100000 in
set_option maxHeartbeats 4000000 in
theorem sum_any (A : Alg) (hb sb cap : Nat) (t : List UInt8) (w : World) (h : ToldAt w A hb sb cap t) :
    Calls Tryd.prog 47 #[.pointer (some ⟨hb, 0, none⟩)] w fun e w' => e = .returned (.string ⟨(sumA A t).toArray⟩) ∧ Q w w' := by
  obtain ⟨⟨bl, hH, hbl⟩, hS, hne⟩ := h
  have HB := Lib.hid hbl
  have HS := Lib.hid hS
  have HH := Lib.hid hH
  have h69 := hashL_size hH.2 A sb cap (t.length % 64) (t.length % 18446744073709551616)
  have H69 := Lib.hid h69
  clear hbl hS h69 hH
  go_enter Tryd.func47, Tryd.ntmps47
  iterate 17 go_step
  refine wpList_load_row rfl 89 (.tmp 9) rfl hb rfl _ _ _ _ HH.out.1 Tryd.underlying89 rfl (by rw [H69.out]; exact und107) ?_
  iterate 3 go_step
  refine wpList_store_row rfl 89 (.tmp 3) (.tmp 10) rfl w.heap.size (hashL A sb cap bl (t.length % 64) (t.length % 18446744073709551616)).toArray rfl rfl 89 _ (heap_alloc_new w _) (by rw [H69.out]; exact und107) (by rw [H69.out]; rfl) (hashL_one _ _ _ _ _ _) ?_
  obtain ⟨w3, hw3, hsz3, hH3, hq3⟩ := sum_start w A sb cap (t.length % 64) (t.length % 18446744073709551616) bl HH.out.2 _
  rw [← hw3]
  clear hw3
  have hc0 := hq3.cell HH.out.c0
  have HC65 := Lib.hid HH.out.c65
  have hS3 := GX.st (S := []) (GX.q hq3) (by simp) HS.out
  have hl := blocksA_length A t (t.length / 64)
  have hn0 := A.n0
  have hn8 := A.n8
  have hf0 := hH3.frozen 0
  have hcc := hH3.c0
  have HH3 := Lib.hid hH3
  have HQ3 := Lib.hid hq3
  have HSZ := Lib.hid hsz3
  have HS3 := Lib.hid hS3
  have HL := Lib.hid hl
  clear hH3 hq3 hsz3 hS3 hl HH HS H69
  obtain ⟨i4, hi4, hz4, hs4, hb4⟩ := info_parts info32
  have HI := Lib.hid hi4
  have HZ := Lib.hid hz4
  have HSI := Lib.hid hs4
  have HBY := Lib.hid hb4
  clear hi4 hz4 hs4 hb4
  go_upto_region 3 with (at_builtin; refine wpList_append_own _ rfl (.const (.slice none 0 0)) (.tmp 14) 84 rfl w3.heap.size 78 i4 (.int .u32 0) 1 4 Tryd.underlying84 HI.out HZ.out HSI.out HBY.out rfl (by decide) (.slice none 0 0) 0 [] rfl (World.ownsRow_nil _ _ _ _) ⟨sb, 0, none⟩ A.n cap ((blocksA A t (t.length / 64)).map u32V) rfl (by simp [HL.out]) (st_news HS3.out) (u32_one _) (by unfold maxLen; omega) (by omega) (Nat.le_refl _) ?_; intro v' w4 hown hg4 _; have hq4 := gb_q (show w3.grownBy w4 none from hg4); have hH4 := HH3.out.x (GX.q (S := []) hq4) (by simp); obtain ⟨sg, cg, hv, hsg, hSg⟩ := st_own (base := w3.heap.size) (l := blocksA A t (t.length / 64)) (by rw [HL.out]; simpa using hown) (by rw [HL.out]; exact hn0); rw [hv, HL.out]; rw [HSZ.out] at hsg; have hcc := hH4.c0; have hf0 := hH4.frozen 0; have HH4 := Lib.hid hH4; have HSG := Lib.hid hSg; have HQ4 := Lib.hid (HQ3.out.trans hq4); clear hv hown hg4 hq4 hH4 hSg)
  obtain ⟨w5, hw5, hT5, hq5⟩ : ∃ w5, w5 = w4.setCell ⟨w.heap.size, 0, none⟩ (.slice (some ⟨sg, 0, none⟩) A.n cg) ∧ ToldAt w5 A w.heap.size sg cg t ∧ Q w w5 := by
    refine ⟨_, rfl, ⟨⟨bl, HashAt.setState HH4.out sg cg, HB.out⟩, ?_, by omega⟩, Q.setNew HQ4.out (Nat.le_refl _) _⟩
    exact ((GX.refl [w.heap.size] w4).set (by simp) _ _).st (by simp; omega) HSG.out
  rw [← hw5]
  clear hw5 hcc hf0 HH4 HSG HQ4 HSZ HS3 HL HI HZ HSI HBY HH3 HQ3 hc0
  have hne5 : sg ≠ w.heap.size := by omega
  have hM : t.length % 64 < 64 := by omega
  have hw8 : IntKind.u64.wrap (8 * ((t.length % 18446744073709551616 : Nat) : Int)) = ((8 * t.length % 18446744073709551616 : Nat) : Int) := by rw [IntWalk_u64]; omega
  have HT5 := Lib.hid hT5
  have HQ5 := Lib.hid hq5
  obtain ⟨⟨bl5, hH5, _⟩, _, _⟩ := hT5
  have c65 := hq5.cell HC65.out
  have c66 := hH5.c66
  clear hH5 hq5 HC65
  have hs8 : 8 * t.length % 18446744073709551616 < 18446744073709551616 := by omega
  generalize hS8 : 8 * t.length % 18446744073709551616 = S8 at hw8 hs8
  generalize hSZ : t.length % 18446744073709551616 = SZ at hw8 c66
  generalize hMM : t.length % 64 = m at c65 hM
  have HS8 := Lib.hid hS8
  have HLT := Lib.hid hs8
  have HSZ := Lib.hid hSZ
  have HMM := Lib.hid hMM
  clear hS8 hSZ hMM hs8
  have e1 : (119 - (m : Int)) % 64 = (((119 - m) % 64 : Nat) : Int) := by omega
  have E1 := Lib.hid e1
  clear e1
  go_wp2_with fail
  rw [E1.out]
  with_reducible refine (Tryd.strings_Repeat ⟨[(0 : UInt8)].toArray⟩ ((119 - m) % 64) _ (by omega) (by simp [ByteArray.size]; omega)).mono ?_
  rintro x w6 ⟨rfl, hq6⟩
  rw [show Lib.repeatL (ByteArray.mk [(0 : UInt8)].toArray).data.toList ((119 - m) % 64) = List.replicate ((119 - m) % 64) 0 from rep_zero _]
  generalize hZ : List.replicate ((119 - m) % 64) (0 : UInt8) = Z
  have hzl : Z.length ≤ 63 := by rw [← hZ, List.length_replicate]; omega
  have HZ := Lib.hid hZ
  clear hZ
  have hT6 := ToldAt.x HT5.out (GX.q (S := []) hq6) (by simp) (by simp)
  have HT6 := Lib.hid hT6
  have HQ6 := Lib.hid (HQ5.out.trans hq6)
  clear hT6 hq6 c65 c66 hw8 E1 HT5 HQ5
  go_wp2_with fail
  with_reducible refine (write_any A w.heap.size sg cg t (128 :: Z) _ HT6.out (by simp; omega)).mono ?_
  rintro x w7 ⟨rfl, hT7, hg7⟩
  have HT7 := Lib.hid hT7
  have HQ7 := Lib.hid (hg7.toQ HQ6.out (by intro k hk; simp at hk; omega))
  obtain ⟨⟨bl7, hH7, _⟩, _, _⟩ := hT7
  have HC7 := Lib.hid hH7.c68
  clear hH7 hg7 HT6 HQ6
  go_wp2_with fail
  with_reducible refine (bytes8_any A.hi w.heap.size S8 _ HC7.out HLT.out).mono ?_
  rintro x w8 ⟨rfl, hq8⟩
  generalize hY : bytesL A.hi (S8) 8 = Y
  have hyl : Y.length ≤ 8 := by rw [← hY]; unfold bytesL; split <;> simp
  have HY := Lib.hid hY
  have HT8 := Lib.hid (ToldAt.x HT7.out (GX.q (S := []) hq8) (by simp) (by simp))
  have HQ8 := Lib.hid (HQ7.out.trans hq8)
  clear hY hq8 HT7 HQ7 HC7
  go_wp2_with fail
  with_reducible refine (write_any A w.heap.size sg cg (t ++ (128 :: Z)) Y _ HT8.out (by omega)).mono ?_
  rintro x w9 ⟨rfl, hT9, hg9⟩
  have HT9 := Lib.hid hT9
  have HQ9 := Lib.hid (hg9.toQ HQ8.out (by intro k hk; simp at hk; omega))
  clear hT9 hg9 HT8 HQ8
  have hpad : t ++ 128 :: Z ++ Y = padA A.hi t := by unfold padA; rw [← HY.out, ← HZ.out, ← HMM.out, ← HS8.out]
  rw [hpad] at HT9
  generalize hT : padA A.hi t = T at *
  have hsum : sumA A t = (blocksA A T (T.length / 64)).flatMap (outW A.hi) := by unfold sumA; rw [hT]
  have HSUM := Lib.hid hsum
  obtain ⟨⟨bl9, hH9, _⟩, hS9, _⟩ := HT9.out
  have hl9 := blocksA_length A T (T.length / 64)
  generalize blocksA A T (T.length / 64) = ST at *
  have c0 := hH9.c0
  have c68 := hH9.c68
  have HS9 := Lib.hid hS9
  have HL9 := Lib.hid hl9
  have H68 := Lib.hid c68
  clear hpad hT hsum hH9 hS9 hl9 c68 HT9
  go_wp2_with fail
  clear c0
  go_loopw [5, 35] (fun s i wr => ∃ k : Nat, k ≤ A.n ∧ i = .int .i64 k ∧ s = .string ⟨((ST.take k).flatMap (outW A.hi)).toArray⟩ ∧ Q w9 wr) (fun _ i _ => A.n - (intOf i).toNat)
  case atStart => exact ⟨0, by omega, rfl, rfl, Q.refl _⟩
  case round =>
    obtain ⟨k, hk, rfl, rfl, hqr⟩ := hrel
    by_cases hlt : k < A.n
    · have hd : decide (k < A.n) = true := by simpa using hlt
      have hc := hqr.cell (HS9.out k (by rw [HL9.out]; exact hlt)).1
      have h68 := hqr.cell H68.out
      have hfl : ((ST.take k).flatMap (outW A.hi)).length ≤ 32 := by rw [flat_length, List.length_take]; omega
      have hsn : (ST.take (k + 1)).flatMap (outW A.hi) = (ST.take k).flatMap (outW A.hi) ++ bytesL A.hi (gW ST k).toNat 4 := by
        rw [List.take_succ_eq_append_getElem (by rw [HL9.out]; exact hlt), List.flatMap_append]
        simp [outW, gW, List.getD, HL9.out, hlt]
      have hwr : IntKind.u64.wrap ((gW ST k).toNat : Int) = ((gW ST k).toNat : Int) := by rw [IntWalk_u64]; have := (gW ST k).isLt; omega
      have h32 := (gW ST k).isLt
      generalize gW ST k = X at *
      generalize (ST.take k).flatMap (outW A.hi) = F at *
      have HSN := Lib.hid hsn
      have HQR := Lib.hid hqr
      have H6 := Lib.hid h68
      have H32 := Lib.hid h32
      clear hsn hqr h68 h32
      go_wp2_with fail
      have h64 : X.toNat < 18446744073709551616 := by have := H32.out; omega
      with_reducible refine (bytes4_any A.hi w.heap.size X.toNat _ H6.out h64).mono ?_
      rintro x w10 ⟨rfl, hq10⟩
      have hyl : (bytesL A.hi X.toNat 4).length ≤ 4 := by unfold bytesL; split <;> simp
      clear h64 hc hwr
      go_wp2_with fail
      go_roundw
      case rel => exact ⟨k + 1, by omega, by go_num, by rw [HSN.out], HQR.out.trans hq10⟩
      case measure => simp [intOf]; omega
    · obtain rfl : k = A.n := by omega
      have hd : decide (A.n < A.n) = false := by simp
      rw [List.take_of_length_le (by rw [HL9.out]; exact Nat.le_refl _), ← HSUM.out]
      have HQR := Lib.hid (HQ9.out.trans hqr)
      clear hqr
      go_wp2_with fail
      go_ret
      exact ⟨rfl, HQR.out⟩
end Go.Proofs.YtbhgekhcpagkoaaDoor
