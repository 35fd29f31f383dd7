/- Texts of this proof, laid into one: JsO, Flo, App, PlS. -/
import Derived.Test.YtcbepjepcabllaaGreatDoorMk14
import Derived.Deep.RegionHeld3
/- A step of the play: the journal's call and what did says of it. -/
set_option linter.unusedVariables false
set_option linter.unusedSimpArgs false
namespace Go.Proofs.YtcbepjepcabllaaGreatDoor
open Go Go.RowKit
/-- What did leaves. -/
def DidP (w0 w' w'' : World) (bw bp bd gh bj f half : Nat) (m : List UInt8) : Prop := StP w0 w'' bw bp bd gh f half m ∧ w''.cell? ⟨bw, 2, none⟩ = some (.pointer (some ⟨bj, 0, none⟩)) ∧ w'.grownBy w'' (some bw)
theorem PWv.jrn {w0 w w' : World} {bw bp bd gh bj br f half : Nat} {wa wo v : Value} {s : PlS} (h : PWv w0 w bw bp bd gh bj br f half wa wo v s) {j' : JrnS} {d' : DskS} (hk : K w0 [bj] w w') (hj : JD w0 w' bj bd bp gh j' d') : PWv w0 w' bw bp bd gh bj br f half wa wo v { s with j := j', d := d' } := by
  have e := elemT_of h.j.j
  have e1 : bw ∉ [bj] := fun c => by
    have c := List.mem_singleton.1 c
    subst c; rw [elemT_of h.ww] at e; revert e; decide
  have e2 : br ∉ [bj] := fun c => by
    have c := List.mem_singleton.1 c
    subst c; rw [elemT_of h.r] at e; revert e; decide
  exact ⟨hj, h.ww.k hk e1, h.r.k hk e2, h.rs.kj hk h.j.j, h.was.kj hk h.j.j, h.would.kj hk h.j.j, h.nbw, h.nbr, hk.toQ h.q (fun k hm => by rw [List.mem_singleton.1 hm]; exact h.j.n)⟩
section
variable {w0 w : World} {bw bp bd gh bj br f half : Nat} {wa wo v : Value} {s : PlS} {m : List UInt8}
/-- Behind a call that was done: the document's next journal is the journal. -/
theorem fin_ok {w' : World} {bn : Nat} {vn : Value} {ep' : Nat} {recs' : List (List UInt8)} {j' : JrnS} {d' : DskS} (h : PWv w0 w' bw bp bd gh bj br f half wa wo v { s with j := j', d := d' }) (hc : s.closed = false) (hg : d'.gone = false) (hb : w0.heap.size ≤ bn) (hr : RJAt w' bn ((half - 1 : Nat) : Int) (ep' : Int) vn) (hs : StrS w' vn recs')
    (ok' : PlOk f half m { s with j := j', d := d', ep := ep', recs := recs', was := recs', would := recs' }) :
    Calls Tryz.prog 37 #[.pointer (some ⟨bw, 0, none⟩), .nilIface, .int .i64 0, .pointer (some ⟨bn, 0, none⟩)] w' fun e w'' => e = .returned (.bool true) ∧ DidP w0 w' w'' bw bp bd gh bj f half m := by
  have hw := h.ww
  have e : ({ s with j := j', d := d' } : PlS).closed = false := hc
  rw [e] at hw
  have hs0 := hs
  obtain ⟨A, cp, rfl, hst⟩ := hs
  refine (did_ok A _ cp hw h.j.d hg hr).mono ?_
  rintro e w'' ⟨rfl, hw2, hgb⟩
  have et := elemT_of h.ww
  have e1 : bj ≠ bw := fun c => by subst c; rw [elemT_of h.j.j] at et; revert et; decide
  have e2 : bn ≠ bw := fun c => by subst c; rw [elemT_of hr] at et; revert et; decide
  have hs2 := hs0.gb hgb (by rw [et]; decide)
  have hw3 : WAt w'' bw bp bd (.pointer (some ⟨bj, 0, none⟩)) (.pointer (some ⟨bn, 0, none⟩)) (f : Int) ((2 * half : Nat) : Int) s.closed false s.rot (.slice A recs'.length cp) (.slice A recs'.length cp) := by rw [hc]; exact hw2
  exact ⟨rfl, .inl ⟨bj, bn, _, _, _, _, ok', ⟨h.j.gb hgb (by rw [et]; decide) e1, hw3, hr.gb hgb e2, hs2, hs2, hs2, h.nbw, hb, gb_q hgb h.q h.nbw⟩⟩, hw2.c2, hgb⟩
/-- Behind a call in which the power went. -/
theorem fin_gone {w' : World} {bn b : Nat} {vn : Value} {E : Int} {recs' : List (List UInt8)} {j' : JrnS} {d' : DskS} (h : PWv w0 w' bw bp bd gh bj br f half wa wo v { s with j := j', d := d' }) (het : ErrT w0) (hc : s.closed = false) (hg : d'.gone = true) (hr : RJAt w' bn ((half - 1 : Nat) : Int) E vn) (hs : StrS w' vn recs') (hb : WrapAt w' b 10)
    (ok' : PlOk f half m { s with j := j', d := d', closed := true, would := recs' }) :
    Calls Tryz.prog 37 #[.pointer (some ⟨bw, 0, none⟩), .iface 84 (.pointer (some ⟨b, 0, none⟩)), .int .i64 0, .pointer (some ⟨bn, 0, none⟩)] w' fun e w'' => e = .returned (.bool true) ∧ DidP w0 w' w'' bw bp bd gh bj f half m := by
  have hw := h.ww
  have e : ({ s with j := j', d := d' } : PlS).closed = false := hc
  rw [e] at hw
  have hs0 := hs
  obtain ⟨A, cp, rfl, hst⟩ := hs
  refine (did_gone A _ cp b hw h.j.d hg hr hb (het.q h.q)).mono ?_
  rintro e w'' ⟨rfl, hw2, hgb⟩
  have et := elemT_of h.ww
  have e1 : bj ≠ bw := fun c => by subst c; rw [elemT_of h.j.j] at et; revert et; decide
  have e2 : br ≠ bw := fun c => by subst c; rw [elemT_of h.r] at et; revert et; decide
  have e4 : elemT w' bw ≠ some 9 := by rw [et]; decide
  exact ⟨rfl, .inl ⟨bj, br, _, _, _, _, ok', ⟨h.j.gb hgb (by rw [et]; decide) e1, hw2, h.r.gb hgb e2, h.rs.gb hgb e4, h.was.gb hgb e4, hs0.gb hgb e4, h.nbw, h.nbr, gb_q hgb h.q h.nbw⟩⟩, hw2.c2, hgb⟩
theorem fin_closed {x : Value} {bn : Nat} {e : Int} (h : PWv w0 w bw bp bd gh bj br f half wa wo v s) (ok : PlOk f half m s) (hc : s.closed = true) (hx : ErrIs w x 16 0) :
    Calls Tryz.prog 37 #[.pointer (some ⟨bw, 0, none⟩), x, .int .i64 e, .pointer (some ⟨bn, 0, none⟩)] w fun e w'' => e = .returned (.bool true) ∧ DidP w0 w w'' bw bp bd gh bj f half m := by
  have hw := h.ww
  rw [hc] at hw
  refine (did_closed x _ _ hw hx).mono ?_
  rintro e w'' ⟨rfl, rfl⟩
  exact ⟨rfl, .inl ⟨_, _, _, _, _, _, ok, h⟩, h.ww.c2, (Q.refl _).gb _⟩
theorem fin_err {x : Value} {bn : Nat} {e : Int} (h : PWv w0 w bw bp bd gh bj br f half wa wo v s) (ok : PlOk f half m s) (hc : s.closed = false) (hx : ErrIs w x e 0) (he : e = 1 ∨ e = 12) :
    Calls Tryz.prog 37 #[.pointer (some ⟨bw, 0, none⟩), x, .int .i64 e, .pointer (some ⟨bn, 0, none⟩)] w fun e w'' => e = .returned (.bool true) ∧ DidP w0 w w'' bw bp bd gh bj f half m := by
  have hw := h.ww
  rw [hc] at hw
  refine (did_err x _ e hw hx he).mono ?_
  rintro e w'' ⟨rfl, rfl⟩
  exact ⟨rfl, .inl ⟨_, _, _, _, _, _, ok, h⟩, h.ww.c2, (Q.refl _).gb _⟩
theorem app_did (h : PWv w0 w bw bp bd gh bj br f half wa wo v s) (ok : PlOk f half m s) (het : ErrT w0) (p : List UInt8) (hp : p.length ≤ 140737488355328) {bn : Nat} {vn : Value} (hb : w0.heap.size ≤ bn) (hr : RJAt w bn ((half - 1 : Nat) : Int) (s.ep : Int) vn) (hs : StrS w vn (appL (half - 1) s.recs p)) :
    Calls Tryz.prog 19 #[.pointer (some ⟨bj, 0, none⟩), .string ⟨p.toArray⟩] w fun e w' => ∃ x, e = .returned x ∧ K w0 [bj] w w' ∧ Calls Tryz.prog 37 #[.pointer (some ⟨bw, 0, none⟩), x, .int .i64 (appE (half - 1) s.recs p), .pointer (some ⟨bn, 0, none⟩)] w' fun e w'' => e = .returned (.bool true) ∧ DidP w0 w' w'' bw bp bd gh bj f half m := by
  have hwt := ok.waits
  cases hc : s.closed with
  | true =>
    refine (Append_closed p h.j.j (ok.jcl.trans hc)).mono ?_
    rintro e w' ⟨⟨x, rfl, hx⟩, hq⟩
    exact ⟨x, rfl, K.q hq, fin_closed (h.up hq) ok hc hx⟩
  | false =>
    obtain ⟨hw, he, hm, hn⟩ := ok.live hc
    by_cases hbig : 60000 < p.length
    · have hE : appE (half - 1) s.recs p = 1 := by unfold appE; rw [if_pos hbig]
      rw [hE]
      refine (Append_big p h.j.j (ok.jcl.trans hc) ok.jok hbig (by omega)).mono ?_
      rintro e w' ⟨⟨x, rfl, hx⟩, hq⟩
      exact ⟨x, rfl, K.q hq, fin_err (h.up hq) ok hc hx (.inl rfl)⟩
    · have hjh := ok.jh
      have hfits := ok.fits
      by_cases hf : half - 1 - wantS s.recs < wantN p
      · have hE : appE (half - 1) s.recs p = 12 := by unfold appE; rw [if_neg hbig, if_pos hf]
        rw [hE]
        have hC : appendC s.j p = 12 := by
          unfold appendC
          rw [ok.jcl.trans hc, if_neg (by decide), if_pos (by omega)]
        have hD : appendD s.j p s.d = (s.d, 0) := by unfold appendD; rw [if_neg (by rw [hC]; decide)]
        have hJ : appendJ s.j p = s.j := by unfold appendJ; rw [if_neg (by rw [hC]; decide)]
        refine (Append_ok p h.j ok.jok (by omega) (by omega) h.q.size (by rw [hD])).mono ?_
        rintro e w' ⟨⟨x, rfl, hx⟩, hj, hk⟩
        rw [hC] at hx
        rw [hJ, hD] at hj
        exact ⟨x, rfl, hk, fin_err (h.jrn hk hj) ok hc hx (.inr rfl)⟩
      · have hE : appE (half - 1) s.recs p = 0 := by unfold appE; rw [if_neg hbig, if_neg hf]
        have hL : appL (half - 1) s.recs p = s.recs ++ [p] := by unfold appL; rw [if_pos hE]
        rw [hE]
        rw [hL] at hs
        have hfit : s.j.next + wantN p ≤ s.j.half := by omega
        have hap := ok.append hc p (by omega) hfit _ rfl
        refine (Append_raw p h.j ok.jok (ok.jcl.trans hc) (by omega) hfit (by omega) het h.q).mono ?_
        rintro e w' ⟨hor, hk⟩
        have hbn : bn ∉ [bj] := fun c => by
          have c := List.mem_singleton.1 c
          subst c
          have e := elemT_of h.j.j
          rw [elemT_of hr] at e; revert e; decide
        rcases hor with ⟨h0, rfl, hj⟩ | ⟨h0, ⟨b, rfl, hbw⟩, hj⟩
        · rcases hap with ⟨_, hg, ok'⟩ | ⟨h10, _⟩
          · exact ⟨_, rfl, hk, fin_ok (h.jrn hk hj) hc hg hb (hr.k hk hbn) (hs.kj hk h.j.j) ok'⟩
          · rw [h0] at h10; exact absurd h10 (by decide)
        · rcases hap with ⟨h00, _⟩ | ⟨h10, hg, ok'⟩
          · exact absurd h00 h0
          · rw [h10] at hbw
            exact ⟨_, rfl, hk, fin_gone (h.jrn hk hj) het hc hg (hr.k hk hbn) (hs.kj hk h.j.j) hbw ok'⟩
theorem res_did (h : PWv w0 w bw bp bd gh bj br f half wa wo v s) (ok : PlOk f half m s) (het : ErrT w0) (ls : List (List UInt8)) (vt : Value) (ht : StrS w vt ls) (hl : ∀ p ∈ ls, p.length ≤ 140737488355328) (hll : ls.length ≤ 4000000000) {bn : Nat} (hb : w0.heap.size ≤ bn) (hr : resE (half - 1) s.ep ls = 0 → ∃ vn, RJAt w bn ((half - 1 : Nat) : Int) ((s.ep + 1 : Nat) : Int) vn ∧ StrS w vn ls) :
    Calls Tryz.prog 22 #[.pointer (some ⟨bj, 0, none⟩), vt] w fun e w' => ∃ x, e = .returned x ∧ K w0 [bj] w w' ∧ Calls Tryz.prog 37 #[.pointer (some ⟨bw, 0, none⟩), x, .int .i64 (resE (half - 1) s.ep ls), .pointer (some ⟨bn, 0, none⟩)] w' fun e w'' => e = .returned (.bool true) ∧ DidP w0 w' w'' bw bp bd gh bj f half m := by
  have hwt := ok.waits
  cases hc : s.closed with
  | true =>
    refine (Reset_closed vt h.j.j (ok.jcl.trans hc)).mono ?_
    rintro e w' ⟨⟨x, rfl, hx⟩, hq⟩
    exact ⟨x, rfl, K.q hq, fin_closed (h.up hq) ok hc hx⟩
  | false =>
    obtain ⟨hw, he, hm, hn⟩ := ok.live hc
    have hjh := ok.jh
    have hh2 := ok.half2
    by_cases htop : 4611686018427387904 ≤ s.j.epoch
    · have hE : resE (half - 1) s.ep ls = 1 := by
        unfold resE
        rw [he, if_pos htop]
        split <;> rfl
      rw [hE]
      refine (Reset_top vt h.j.j (ok.jcl.trans hc) htop).mono ?_
      rintro e w' ⟨⟨x, rfl, hx⟩, hq⟩
      exact ⟨x, rfl, K.q hq, fin_err (h.up hq) ok hc hx (.inl rfl)⟩
    · have hE : resE (half - 1) s.ep ls = resC s.j.half ls := by
        unfold resE resC
        rw [he, if_neg htop, hjh]
      by_cases hres : resC s.j.half ls = 0
      · rw [hE, hres] at hr ⊢
        obtain ⟨vn, hr, hs⟩ := hr rfl
        have hnb : bigL ls = false := by
          cases hbl : bigL ls with
          | false => rfl
          | true => unfold resC at hres; rw [hbl, if_pos rfl] at hres; exact absurd hres (by decide)
        have hwl : ¬ (half - 1 < wantS ls) := fun hx => by
          unfold resC at hres
          rw [hnb, if_neg (by decide), hjh, if_pos hx] at hres
          exact absurd hres (by decide)
        have hp := bigL_false hnb
        have hap := ok.reset hc ls hp (by omega) (by omega) _ rfl
        refine (Reset_raw vt ls h.j ht hp ok.jok (ok.jcl.trans hc) (by omega) (by omega) (by have := wantS_ge ls; have := ok.place; omega) (by omega) het h.q).mono ?_
        rintro e w' ⟨hor, hk⟩
        have hbn : bn ∉ [bj] := fun c => by
          have c := List.mem_singleton.1 c
          subst c
          have e := elemT_of h.j.j
          rw [elemT_of hr] at e; revert e; decide
        rcases hor with ⟨h0, rfl, hj⟩ | ⟨h0, ⟨b, rfl, hbw⟩, hj⟩
        · rcases hap with ⟨_, hg, ok'⟩ | ⟨h10, _⟩
          · exact ⟨_, rfl, hk, fin_ok (h.jrn hk hj) hc hg hb (hr.k hk hbn) (hs.kj hk h.j.j) ok'⟩
          · rw [h0] at h10; exact absurd h10 (by decide)
        · rcases hap with ⟨h00, _⟩ | ⟨h10, hg, ok'⟩
          · exact absurd h00 h0
          · rw [h10] at hbw
            exact ⟨_, rfl, hk, fin_gone (h.jrn hk hj) het hc hg (hr.k hk hbn) (hs.kj hk h.j.j) hbw ok'⟩
      · rw [hE]
        have h12 : resC s.j.half ls = 1 ∨ resC s.j.half ls = 12 := by
          unfold resC at hres ⊢
          split
          · exact .inl rfl
          · split
            · exact .inr rfl
            · next h1 h2 => rw [if_neg h1, if_neg h2] at hres; exact absurd rfl hres
        refine (Reset_no vt ls h.j.j ht hl ok.jok (ok.jcl.trans hc) (by omega) hll hres).mono ?_
        rintro e w' ⟨⟨x, rfl, hx⟩, hq⟩
        exact ⟨x, rfl, K.q hq, fin_err (h.up hq) ok hc hx h12⟩
end
end Go.Proofs.YtcbepjepcabllaaGreatDoor
/- A region that draws its order and holds one alloc that may come up at any time beside a chain of calls: v, e := f(g(..)). -/
set_option linter.unusedVariables false
namespace Go.Proofs.YtcbepjepcabllaaGreatDoor
open Go Go.RowKit
section
variable {P : Program} {ops : Array Oper} {R : Exit → Act → World → Prop}
/-- An operation that does not look at z's slot does the same behind z. -/
theorem wpOp_set {j : Nat} {oz oj : Oper} {v : Value} (hj : ops[j]? = some oj) (hap : oz.apart ops oj = true) (hsj : ∀ cs b, oj.op ≠ .select cs b)
    (hQ : ∀ c a w, R (.panic c) a w → R (.panic c) (a.put oz.dst v) w) {K : Act → World → Prop} {a : Act} {w : World}
    (h : wpOp P ops R j K a w) : wpOp P ops R j (fun a' w' => ∃ a0, a' = Act.put a0 oz.dst v ∧ K a0 w') (a.put oz.dst v) w := by
  obtain ⟨h1, h2, h3⟩ := Oper.apart_spec hap
  unfold wpOp at *
  simp only [hj] at *
  rw [wanted_put oj a oz.dst v h1]
  split
  · rename_i hw
    simp only [hw, if_true] at h
    rcases h with h | ⟨hasks, hlets⟩
    case inr => exact .inr ⟨by unfold Oper.asks at *; rw [execOp_put oj hsj a oz.dst v h1]; exact hasks, hlets⟩
    refine .inl ?_
    unfold Oper.wp at *
    rw [execOp_put oj hsj a oz.dst v h1]
    generalize (execOp a.eval oj).run P w = r at *
    cases r with
    | ok n w' =>
      cases n <;> simp only [Oper.upon] at h ⊢
      case value u => exact ⟨_, Act.put_comm a v u h2, h⟩
      case skip => exact ⟨_, Act.put_comm a v undef h2, h⟩
      case defer d => exact ⟨_, by rw [Act.put_defers, Act.put_comm _ v undef h2], h⟩
      case enter f args =>
        refine Calls.mono h fun e w'' he => ?_
        cases e with
        | returned u => exact ⟨_, Act.put_comm a v u h2, he⟩
        | panicked c => exact hQ _ _ _ he
        | outgrown => exact he
      case row row args => exact Rows.mono h fun u w'' he => ⟨_, Act.put_comm a v u h2, he⟩
    | halt x w' =>
      cases x <;> simp only [Oper.upon] at h ⊢
      case panic u => exact hQ _ _ _ h
  · rename_i hw
    simp only [hw] at h
    exact ⟨_, Act.put_comm a v undef h2, h⟩
/-- A chain, each of whose members is shown in whatever world has grown from the one at hand; behind each some pure operations. -/
def wpCh (P : Program) (ops : Array Oper) (R : Exit → Act → World → Prop) (E : Act → World → Prop) : List (Oper × List Oper) → Act → World → Prop
  | [], a, w => E a w
  | (o, q) :: r, a, w => ∀ W, Q w W → ∀ K : Act → World → Prop, Hid (∀ a' w', Q W w' → wpQuiet P ops (fun _ => True) (fun a'' => wpCh P ops R E r a'' w') q a' → K a' w') → wpList P ops (Exit.then K R) [o] a W
/-- The end of it: the alloc's block stands somewhere. -/
def wpChE (P : Program) (ops : Array Oper) (R : Exit → Act → World → Prop) (N : Nat) (obj : Obj) (zd : Option Tmp) (zs : List Oper) (a : Act) (w : World) : Prop :=
  ∀ W b, Q w W → W.heap[b]? = some obj → N ≤ b → wpList P ops R zs (a.put zd (.pointer (some ⟨b, 0, none⟩))) W
theorem wpQuiet_set {T : World → Prop} {K : Act → Prop} {oz : Oper} {v : Value} (l : List Oper) : ∀ (a : Act), (∀ o ∈ l, oz.apart ops o = true) → (∀ o ∈ l, ∀ cs b, o.op ≠ .select cs b) →
    wpQuiet P ops T K l a → wpQuiet P ops T (fun a' => ∃ a0, a' = Act.put a0 oz.dst v ∧ K a0) l (a.put oz.dst v) := by
  induction l with
  | nil => intro a _ _ h; exact ⟨a, rfl, h⟩
  | cons o r ih =>
    intro a hap hse h
    obtain ⟨h1, h2, h3⟩ := Oper.apart_spec (hap o (by simp))
    have ihr := fun a h => ih a (fun o ho => hap o (List.mem_cons_of_mem _ ho)) (fun o ho => hse o (List.mem_cons_of_mem _ ho)) h
    unfold wpQuiet at h ⊢
    rw [wanted_put o a oz.dst v h1]
    split at h
    · next hw =>
      rw [if_pos hw]
      obtain ⟨x, hx, hn⟩ := h
      refine ⟨x, fun w hw => ?_, ?_⟩
      · have := hx w hw
        unfold Oper.quietAt at this ⊢
        rw [execOp_put o (hse o (by simp)) a oz.dst v h1]
        exact this
      · rw [Act.put_comm a v x h2]; exact ihr _ hn
    · next hw =>
      rw [if_neg hw, Act.put_comm a v undef h2]; exact ihr _ h
variable {w0 : World} {obj : Obj} {z : Nat} {oz : Oper} {zs : List Nat}
def opsL (ops : Array Oper) (tl : List (Nat × List Nat)) : List (Oper × List Oper) := tl.map fun p => (ops.getD p.1 default, p.2.map (ops.getD · default))
def lenC : List (Nat × List Nat) → Nat
  | [] => 0
  | (k, q) :: r => q.length + lenC r + 1
def sB (ops : Array Oper) (zs : List Nat) : List (Nat × List Nat) → Array Bool → Bool
  | [], ls => tailB .any ops zs ls && (Region.ready .any ops ls).all fun i => zs.contains i
  | (k, q) :: r, ls => decide (Region.ready .any ops ls = [k]) && (ops[k]?).isSome && pureB .any ops q (ls.setIfInBounds k true) && sB ops zs r (markB q (ls.setIfInBounds k true))
def apB (ops : Array Oper) (oz : Oper) (zs : List Nat) (tl : List (Nat × List Nat)) : Bool :=
  tl.all fun p => (p.1 :: p.2).all fun i => !zs.contains i && match ops[i]? with | some o => oz.apart ops o | none => false
theorem noSel_mem (hsel : Region.noSelect ops = true) {i : Nat} (h : (ops[i]?).isSome = true) : ∀ cs b, (ops.getD i default).op ≠ .select cs b := by
  obtain ⟨o, ho⟩ := Option.isSome_iff_exists.1 h
  have hk : ops.getD i default = o := by simp [Array.getD_eq_getD_getElem?, ho]
  rw [hk]; exact fun cs b => Region.noSelect_spec hsel i o cs b ho
theorem flo_B (hsel : Region.noSelect ops = true) (hQ1 : ∀ c a d v w, R (.panic c) (Act.put a d v) w → R (.panic c) a w) (hQ : ∀ c a d v w, R (.panic c) a w → R (.panic c) (Act.put a d v) w) (tl : List (Nat × List Nat)) : ∀ (ls : Array Bool) (a : Act) (w W : World) (b : Nat), ClosedL ops ls →
    apB ops oz zs tl = true → sB ops zs tl ls = true → Q w0 w → Q w W → W.heap[b]? = some obj → w0.heap.size ≤ b →
    wpCh P ops R (wpChE P ops R w0.heap.size obj oz.dst (zs.map (ops.getD · default))) (opsL ops tl) a w → wpAnyZ P ops R (fun w' => ∃ m : QW w0, w' = m.val) zs (lenC tl + zs.length) ls (a.put oz.dst (.pointer (some ⟨b, 0, none⟩))) W := by
  induction tl with
  | nil =>
    intro ls a w W b _ _ hB h0 hW hb hN h
    simp only [sB, Bool.and_eq_true] at hB
    have h1 := wpAny_of_held _ _ _ _ (any_tail zs ls _ W hB.1 (h W b hW hb hN))
    have e : lenC [] + zs.length = zs.length := by simp [lenC]
    rw [e]
    generalize zs.length = f at h1
    cases f with
    | zero => exact h1
    | succ f =>
      refine ⟨h1.1, fun i hi => wpOp_mono (fun a' w' h' => ?_) (h1.2 i hi)⟩
      rw [if_pos (by simpa using List.all_eq_true.1 hB.2 i hi)]
      exact h'
  | cons p r ih =>
    obtain ⟨k, q⟩ := p
    intro ls a w W b inv hap hB h0 hW hb hN h
    simp only [sB, Bool.and_eq_true, decide_eq_true_eq] at hB
    obtain ⟨⟨⟨b1, b2⟩, b3⟩, b4⟩ := hB
    have hap2 : apB ops oz zs r = true := by
      unfold apB at hap ⊢; rw [List.all_cons, Bool.and_eq_true] at hap; exact hap.2
    have hapk : ∀ i ∈ k :: q, i ∉ zs ∧ ∃ o, ops[i]? = some o ∧ oz.apart ops o = true := fun i hi => by
      unfold apB at hap; rw [List.all_cons, Bool.and_eq_true] at hap
      have := List.all_eq_true.1 hap.1 i hi
      simp only [Bool.and_eq_true] at this
      refine ⟨fun e => (by have := this.1; rw [List.contains_iff_mem.2 e] at this; cases this), ?_⟩
      cases ho : ops[i]? with
      | none => rw [ho] at this; exact absurd this.2 (by simp)
      | some o => rw [ho] at this; exact ⟨o, rfl, this.2⟩
    have e : lenC ((k, q) :: r) + zs.length = (q.length + (lenC r + zs.length)) + 1 := by simp [lenC]; omega
    rw [e]
    refine ⟨fun hn => (by rw [b1] at hn; cases hn), fun i hi => ?_⟩
    have hi' := hi
    rw [b1] at hi
    have e : i = k := by simpa using hi
    subst e
    obtain ⟨hizs, o, ho, hapo⟩ := hapk i (by simp)
    have hk : ops.getD i default = o := by simp [Array.getD_eq_getD_getElem?, ho]
    have h2 : wpCh P ops R (wpChE P ops R w0.heap.size obj oz.dst (zs.map (ops.getD · default))) ((o, q.map (ops.getD · default)) :: opsL ops r) a w := by
      have := h
      simp only [opsL, List.map_cons, hk] at this
      exact this
    have h1 : wpOp P ops R i (fun a' w' => Q W w' ∧ wpQuiet P ops (fun _ => True) (fun a'' => wpCh P ops R (wpChE P ops R w0.heap.size obj oz.dst (zs.map (ops.getD · default))) (opsL ops r) a'' w') (q.map (ops.getD · default)) a') a W :=
      wpOp_of_one ho (h2 W hW _ (fun a' w' hq h' => ⟨hq, h'⟩))
    refine wpOp_mono (fun a' w' h' => ?_) (wpOp_set (oz := oz) ho hapo (fun cs b => Region.noSelect_spec hsel i o cs b ho) (fun c a w => hQ c a _ _ w) h1)
    obtain ⟨a1, rfl, hq, hc⟩ := h'
    rw [if_neg hizs]
    have h0w : Q w0 w' := (h0.trans hW).trans hq
    refine ⟨⟨⟨w', h0w⟩, rfl⟩, ?_⟩
    refine headZ hsel hQ1 (T := fun _ => True) (fun _ _ => trivial) q (.inr fun _ => trivial) _ w' ⟨⟨w', h0w⟩, rfl⟩ _ _ (inv.set hi') (fun j hj => (hapk j (List.mem_cons_of_mem _ hj)).1) b3 ?_
    refine wpQuiet_mono (fun a'' h'' inv' => ?_) _ _ (wpQuiet_set (oz := oz) (v := .pointer (some ⟨b, 0, none⟩)) _ a1 (fun o ho => ?_) (fun o ho => ?_) hc)
    · obtain ⟨a2, rfl, h3⟩ := h''
      exact ih _ a2 w' w' b inv' hap2 b4 h0w (Q.refl _) (hq.block hb) hN h3
    · obtain ⟨j, hj, rfl⟩ := List.mem_map.1 ho
      obtain ⟨_, o2, ho2, hap3⟩ := hapk j (List.mem_cons_of_mem _ hj)
      have : ops.getD j default = o2 := by simp [Array.getD_eq_getD_getElem?, ho2]
      rw [this]; exact hap3
    · obtain ⟨j, hj, rfl⟩ := List.mem_map.1 ho
      obtain ⟨_, o2, ho2, _⟩ := hapk j (List.mem_cons_of_mem _ hj)
      exact noSel_mem hsel (by rw [ho2]; rfl)
def floB (ops : Array Oper) (z : Nat) (zs : List Nat) : List (Nat × List Nat) → Array Bool → Bool
  | [], ls => decide (Region.ready .any ops ls = [z]) && sB ops zs [] (ls.setIfInBounds z true)
  | (k, q) :: r, ls => (Region.ready .any ops ls).contains k && (Region.ready .any ops ls).contains z && (Region.ready .any ops ls).all (fun i => i == k || i == z) && sB ops zs ((k, q) :: r) (ls.setIfInBounds z true)
      && pureB .any ops q (ls.setIfInBounds k true) && floB ops z zs r (markB q (ls.setIfInBounds k true))
theorem flo_A (hsel : Region.noSelect ops = true) (hQ1 : ∀ c a d v w, R (.panic c) (Act.put a d v) w → R (.panic c) a w) (hQ : ∀ c a d v w, R (.panic c) a w → R (.panic c) (Act.put a d v) w) (hz : ops[z]? = some oz) (hgd : oz.guard = none) (hzz : z ∉ zs)
    (hrun : ∀ (ρ : Operand → Value) (W : World), (execOp ρ oz).run P W = .ok (.value (.pointer (some ⟨W.heap.size, 0, none⟩))) (W.alloc obj)) (tl : List (Nat × List Nat)) : ∀ (ls : Array Bool) (a : Act) (w : World), ClosedL ops ls →
    apB ops oz zs tl = true → floB ops z zs tl ls = true → Q w0 w →
    wpCh P ops R (wpChE P ops R w0.heap.size obj oz.dst (zs.map (ops.getD · default))) (opsL ops tl) a w → wpAnyZ P ops R (fun w' => ∃ m : QW w0, w' = m.val) zs (lenC tl + 1 + zs.length) ls a w := by
  have hzop : ∀ (K : Act → World → Prop) (a : Act) (W : World), K (a.put oz.dst (.pointer (some ⟨W.heap.size, 0, none⟩))) (W.alloc obj) → wpOp P ops R z K a W := by
    intro K a W h
    unfold wpOp
    simp only [hz]
    have hw : Region.wanted oz (yielded ops a.tmps) = true := by simp [Region.wanted, hgd]
    simp only [hw, if_true, Oper.wp, hrun, Oper.upon]
    exact .inl h
  have hzdo : ∀ (tl : List (Nat × List Nat)) (ls : Array Bool) (a : Act) (w : World), ClosedL ops ls → z ∈ Region.ready .any ops ls → apB ops oz zs tl = true → sB ops zs tl (ls.setIfInBounds z true) = true → Q w0 w →
      wpCh P ops R (wpChE P ops R w0.heap.size obj oz.dst (zs.map (ops.getD · default))) (opsL ops tl) a w →
      wpOp P ops R z (fun a' w' => if z ∈ zs then wpAny P .any ops R (lenC tl + zs.length) (ls.setIfInBounds z true) a' w' else (fun w' => ∃ m : QW w0, w' = m.val) w' ∧ wpAnyZ P ops R (fun w' => ∃ m : QW w0, w' = m.val) zs (lenC tl + zs.length) (ls.setIfInBounds z true) a' w') a w := by
    intro tl ls a w inv hzr hap hB h0 h
    refine hzop _ _ _ ?_
    rw [if_neg hzz]
    have hq : Q w (w.alloc obj) := (Q.refl w).alloc _
    exact ⟨⟨⟨_, h0.trans hq⟩, rfl⟩, flo_B hsel hQ1 hQ tl (ls.setIfInBounds z true) a w (w.alloc obj) w.heap.size (inv.set hzr) hap hB h0 hq (MapKept.heap_alloc w _).1 h0.size h⟩
  induction tl with
  | nil =>
    intro ls a w inv hap hB h0 h
    simp only [floB, Bool.and_eq_true, decide_eq_true_eq] at hB
    have e : lenC [] + 1 + zs.length = lenC [] + zs.length + 1 := by omega
    rw [e]
    refine ⟨fun hn => (by rw [hB.1] at hn; cases hn), fun i hi => ?_⟩
    have hi' := hi
    rw [hB.1] at hi
    have e : i = z := by simpa using hi
    subst e
    exact hzdo [] ls a w inv hi' hap hB.2 h0 h
  | cons p r ih =>
    obtain ⟨k, q⟩ := p
    intro ls a w inv hap hB h0 h
    simp only [floB, Bool.and_eq_true] at hB
    obtain ⟨⟨⟨⟨⟨b1, b1z⟩, b2⟩, b4⟩, b5⟩, b7⟩ := hB
    have hap2 : apB ops oz zs r = true := by
      unfold apB at hap ⊢; rw [List.all_cons, Bool.and_eq_true] at hap; exact hap.2
    have hapk : ∀ i ∈ k :: q, i ∉ zs ∧ ∃ o, ops[i]? = some o ∧ oz.apart ops o = true := fun i hi => by
      unfold apB at hap; rw [List.all_cons, Bool.and_eq_true] at hap
      have := List.all_eq_true.1 hap.1 i hi
      simp only [Bool.and_eq_true] at this
      refine ⟨fun e => (by have := this.1; rw [List.contains_iff_mem.2 e] at this; cases this), ?_⟩
      cases ho : ops[i]? with
      | none => rw [ho] at this; exact absurd this.2 (by simp)
      | some o => rw [ho] at this; exact ⟨o, rfl, this.2⟩
    have hne : k ∈ Region.ready .any ops ls := by simpa using b1
    have hze : z ∈ Region.ready .any ops ls := by simpa using b1z
    have e1 : lenC ((k, q) :: r) + 1 + zs.length = (lenC ((k, q) :: r) + zs.length) + 1 := by omega
    rw [e1]
    refine ⟨fun hn => (by rw [hn] at hne; cases hne), fun i hi => ?_⟩
    have hik : i = k ∨ i = z := by simpa using List.all_eq_true.1 b2 i hi
    by_cases hiz : i = z
    · subst hiz
      exact hzdo ((k, q) :: r) ls a w inv hi hap b4 h0 h
    · have e : i = k := hik.resolve_right hiz
      subst e
      obtain ⟨hizs, o, ho, _⟩ := hapk i (by simp)
      have hk : ops.getD i default = o := by simp [Array.getD_eq_getD_getElem?, ho]
      have h2 : wpCh P ops R (wpChE P ops R w0.heap.size obj oz.dst (zs.map (ops.getD · default))) ((o, q.map (ops.getD · default)) :: opsL ops r) a w := by
        have := h
        simp only [opsL, List.map_cons, hk] at this
        exact this
      refine wpOp_of_one ho (h2 w (Q.refl _) _ (fun a' w' hq h' => ?_))
      rw [if_neg hizs]
      have h0w : Q w0 w' := h0.trans hq
      refine ⟨⟨⟨w', h0w⟩, rfl⟩, ?_⟩
      have e3 : lenC ((i, q) :: r) + zs.length = q.length + (lenC r + 1 + zs.length) := by simp [lenC]; omega
      rw [e3]
      refine headZ hsel hQ1 (T := fun _ => True) (fun _ _ => trivial) q (.inr fun _ => trivial) _ w' ⟨⟨w', h0w⟩, rfl⟩ _ _ (inv.set hi) (fun j hj => (hapk j (List.mem_cons_of_mem _ hj)).1) b5 ?_
      exact wpQuiet_mono (fun a'' h'' inv' => ih _ a'' w' inv' hap2 b7 h0w h'') _ _ h'
/-- Each is waited for by one behind it, or by y. -/
def sinkR (ops : Array Oper) (y : Nat) : List Nat → Bool
  | [] => true
  | i :: r => (r ++ [y]).any (fun j => Region.waitsFor .any ops j i) && sinkR ops y r
theorem sinkR_all {y : Nat} {ls : Array Bool} (inv : ClosedL ops ls) (hy : y ∈ Region.ready .any ops ls) (qs : List Nat) : (∀ i ∈ qs, i < ops.size) → sinkR ops y qs = true → ∀ i ∈ qs, ls.getD i true = true := by
  induction qs with
  | nil => intro _ _ i hi; cases hi
  | cons a r ih =>
    intro hsz hs i hi
    simp only [sinkR, Bool.and_eq_true] at hs
    have ihr := ih (fun i hi => hsz i (List.mem_cons_of_mem _ hi)) hs.2
    rcases List.mem_cons.1 hi with e | e
    · subst e
      obtain ⟨j, hj, hj2⟩ := List.any_eq_true.1 hs.1
      obtain ⟨oj, hoj, e, he, hb, hon⟩ := Region.waitsFor_spec hj2
      cases hun : ls.getD i true with
      | true => rfl
      | false =>
        exfalso
        rcases List.mem_append.1 hj with hjr | hjy
        · have hjl : ls.getD j false = true := by
            have h1 := ihr j hjr
            have hjs : j < ls.size := by rw [inv.size]; exact hsz j (List.mem_cons_of_mem _ hjr)
            simpa [hjs] using h1
          have h2 := inv.closed j oj hoj hjl e he hb
          rw [hon, getD_both hun] at h2
          cases h2
        · have : j = y := by simpa using hjy
          subst this
          obtain ⟨_, oz, hoz, hall⟩ := mem_ready.1 hy
          have : oj = oz := Option.some.inj (hoj.symm.trans hoz)
          subst this
          have h2 := hall e he hb
          rw [hon, getD_both hun] at h2
          cases h2
    · exact ihr i e
end
def chIdx (tl : List (Nat × List Nat)) : List Nat := tl.flatMap fun p => p.1 :: p.2
/-- hd: reads, taken first; tl: a chain (calls, mostly), behind each of its members some pure operations; z: the alloc, which may come up beside any of them; zs: the end. ws: per member of the end, a chain of waiting in which the reads stand. -/
theorem wp_flo {P : Program} {id : Nat} {R : Exit → Act → World → Prop} {a : Act} {w : World} {l : List Oper} (hd : List Nat) (tl : List (Nat × List Nat)) (z : Nat) (zs : List Nat) (ws : List (List Nat)) (obj : Obj) (hm : P.follows .mixedOrders = true)
    (hB : (Region.noSelect l.toArray && pureB .any l.toArray hd (Array.replicate l.length false) && floB l.toArray z zs tl (markB hd (Array.replicate l.length false)) && decide (hd.length + (lenC tl + 1 + zs.length) = l.length)
      && hd.all (fun i => !zs.contains i) && !zs.contains z && ((l.getD z default).guard).isNone && decide (z < l.length) && apB l.toArray (l.getD z default) zs tl
      && (zs.zip ws).all (fun p => sinkR l.toArray p.1 p.2 && p.2.all (fun i => decide (i < l.length)) && hd.all fun i => p.2.contains i) && decide (zs.length = ws.length)) = true)
    (hrun : ∀ (ρ : Operand → Value) (W : World), (execOp ρ (l.getD z default)).run P W = .ok (.value (.pointer (some ⟨W.heap.size, 0, none⟩))) (W.alloc obj))
    (h : wpQuiet P l.toArray (fun w' => ∃ m : QW w.drew, w' = m.val) (fun a' => wpCh P l.toArray (NoPanic R) (wpChE P l.toArray (NoPanic R) w.drew.heap.size obj (l.getD z default).dst (zs.map (l.toArray.getD · default))) (opsL l.toArray tl) a' w.drew) (hd.map (l.toArray.getD · default)) a) : (Code.region id l.toArray true).wp P R a w := by
  refine wp_region_noPanic ?_
  simp only [Bool.and_eq_true, decide_eq_true_eq] at hB
  obtain ⟨⟨⟨⟨⟨⟨⟨⟨⟨⟨h1, h2⟩, h3⟩, h4⟩, h5⟩, h6⟩, h7⟩, h8⟩, h9⟩, h10⟩, h11⟩ := hB
  have hn := not_mem_of h5
  have hQ1 : ∀ c a d v w, NoPanic R (.panic c) (Act.put a d v) w → NoPanic R (.panic c) a w := fun _ _ _ _ _ h => h
  have hQ2 : ∀ c a d v w, NoPanic R (.panic c) a w → NoPanic R (.panic c) (Act.put a d v) w := fun _ _ _ _ _ h => h
  have hzs : ∀ i ∈ hd, ∀ ls, ClosedL l.toArray ls → ls.getD i true = false → ∀ y ∈ zs, y ∉ Region.ready .any l.toArray ls := fun i hi ls inv hun y hy hr => by
    obtain ⟨n, hn, rfl⟩ := List.getElem_of_mem hy
    have hn2 : n < ws.length := by omega
    have g := List.all_eq_true.1 h10 (zs[n], ws[n]) (by
      rw [show (zs[n], ws[n]) = (zs.zip ws)[n]'(by rw [List.length_zip]; omega) by simp]
      exact List.getElem_mem _)
    simp only [Bool.and_eq_true] at g
    have hiw : i ∈ ws[n] := by simpa using List.all_eq_true.1 g.2 i hi
    have := sinkR_all inv hr ws[n] (fun j hj => by have := List.all_eq_true.1 g.1.2 j hj; simpa using this) g.1.1 i hiw
    rw [hun] at this; cases this
  have inv0 : ClosedL l.toArray (Array.replicate l.length false) := ⟨by simp, fun j oj hj hl => by
      rw [Array.getD_eq_getD_getElem?] at hl
      by_cases hjl : j < l.length
      · simp [hjl] at hl
      · simp [hjl] at hl⟩
  have hoz : l.toArray[z]? = some (l.getD z default) := by simp [List.getD_eq_getElem?_getD, h8]
  refine wp_region_any hm (wpAny_of_Z (S := fun w' => ∃ m : QW w.drew, w' = m.val) (zs := zs) _ _ _ _ ?_)
  have := headZ (zs := zs) (S := fun w' => ∃ m : QW w.drew, w' = m.val) (T := fun w' => ∃ m : QW w.drew, w' = m.val) h1 hQ1 (fun _ h => h) hd (.inl hzs) (lenC tl + 1 + zs.length) w.drew ⟨⟨w.drew, Q.refl _⟩, rfl⟩ _ a inv0 (fun i hi => hn i hi) h2
    (wpQuiet_mono (fun a' h' inv' => flo_A h1 hQ1 hQ2 hoz (by simpa using h7) (fun e => by rw [List.contains_iff_mem.2 e] at h6; cases h6) hrun tl _ a' w.drew inv' h9 h3 (Q.refl _) h') _ _ h)
  rw [h4] at this
  exact this
end Go.Proofs.YtcbepjepcabllaaGreatDoor
/- A region that draws its order: reads first; then x and y in either order (a call and an alloc); then a forced middle (an append), pure operations, and at the end u and v in either order (two stores): x.F = append(x.F, f(..)). -/
set_option linter.unusedVariables false
namespace Go.Proofs.YtcbepjepcabllaaGreatDoor
open Go Go.RowKit
section
variable {P : Program} {ops : Array Oper} {R : Exit → Act → World → Prop} {S : World → Prop}
theorem forkZ {zs : List Nat} (f x y : Nat) (ls : Array Bool) (a : Act) (w : World) (E : Act → World → Prop) (hS : S w) (inv : ClosedL ops ls) (hx : x ∉ zs) (hy : y ∉ zs) (hB : forkB ops x y ls = true)
    (hE : ∀ a w, S w → ClosedL ops (markB [x, y] ls) → E a w → wpAnyZ P ops R S zs f (markB [x, y] ls) a w)
    (h1 : wpListK P ops R S E ([x, y].map (ops.getD · default)) a w) (h2 : wpListK P ops R S E ([y, x].map (ops.getD · default)) a w) : wpAnyZ P ops R S zs (2 + f) ls a w := by
  simp only [forkB, Bool.and_eq_true, decide_eq_true_eq] at hB
  obtain ⟨⟨⟨⟨⟨hr, hx2⟩, hy2⟩, hne⟩, hB1⟩, hB2⟩ := hB
  rw [show 2 + f = (1 + f) + 1 by omega]
  refine ⟨fun h0 => (by rw [hr] at h0; cases h0), fun i hi => ?_⟩
  have hi' := hi
  rw [hr] at hi
  have hi : i = x ∨ i = y := by simpa using hi
  rcases hi with rfl | rfl
  · obtain ⟨o, ho⟩ := Option.isSome_iff_exists.1 hx2
    have hk : ops.getD i default = o := by simp [Array.getD_eq_getD_getElem?, ho]
    rw [List.map_cons, hk] at h1
    refine wpOp_of_one ho (h1 _ (fun a' w' hs h' => ?_))
    rw [if_neg hx]
    refine ⟨hs, chainZ f [y] _ a' w' E hs (inv.set hi') (fun j hj => by simp at hj; rw [hj]; exact hy) hB1 hE h'⟩
  · obtain ⟨o, ho⟩ := Option.isSome_iff_exists.1 hy2
    have hk : ops.getD i default = o := by simp [Array.getD_eq_getD_getElem?, ho]
    rw [List.map_cons, hk] at h2
    refine wpOp_of_one ho (h2 _ (fun a' w' hs h' => ?_))
    rw [if_neg hy]
    refine ⟨hs, chainZ f [x] _ a' w' E hs (inv.set hi') (fun j hj => by simp at hj; rw [hj]; exact hx) hB2 (fun a w hs hc he => ?_) h'⟩
    have e : markB [x] (ls.setIfInBounds i true) = markB [x, i] ls := by
      show (ls.setIfInBounds i true).setIfInBounds x true = (ls.setIfInBounds x true).setIfInBounds i true
      rw [Array.setIfInBounds_comm _ _ (Ne.symm hne)]
    rw [e] at hc ⊢
    exact hE a w hs hc he
/-- The end: u and v, in either order. -/
theorem endZ {zs : List Nat} (u v : Nat) (ls : Array Bool) (a : Act) (w : World) (hu : u ∈ zs) (hv : v ∈ zs) (hB : forkB ops u v ls = true) (hend : Region.ready .any ops (markB [u, v] ls) = [])
    (h1 : wpListK P ops R (fun _ => True) (fun a w => R .normal a w) ([u, v].map (ops.getD · default)) a w) (h2 : wpListK P ops R (fun _ => True) (fun a w => R .normal a w) ([v, u].map (ops.getD · default)) a w) : wpAnyZ P ops R S zs 2 ls a w := by
  simp only [forkB, Bool.and_eq_true, decide_eq_true_eq] at hB
  obtain ⟨⟨⟨⟨⟨hr, hu2⟩, hv2⟩, hne⟩, hB1⟩, hB2⟩ := hB
  simp only [forcedB, Bool.and_eq_true, decide_eq_true_eq] at hB1 hB2
  refine ⟨fun h0 => (by rw [hr] at h0; cases h0), fun i hi => ?_⟩
  rw [hr] at hi
  have hi : i = u ∨ i = v := by simpa using hi
  obtain ⟨ou, hou⟩ := Option.isSome_iff_exists.1 hu2
  obtain ⟨ov, hov⟩ := Option.isSome_iff_exists.1 hv2
  have hku : ops.getD u default = ou := by simp [Array.getD_eq_getD_getElem?, hou]
  have hkv : ops.getD v default = ov := by simp [Array.getD_eq_getD_getElem?, hov]
  simp only [List.map_cons, List.map_nil, hku, hkv] at h1 h2
  rcases hi with rfl | rfl
  · refine wpOp_of_one hou (h1 _ (fun a' w' _ h' => ?_))
    rw [if_pos hu]
    refine ⟨fun h0 => (by rw [hB1.1.1] at h0; cases h0), fun j hj => ?_⟩
    rw [hB1.1.1] at hj
    have e : j = v := by simpa using hj
    subst e
    exact wpOp_of_one hov (h' _ (fun a'' w'' _ h'' => ⟨hend, h''⟩))
  · refine wpOp_of_one hov (h2 _ (fun a' w' _ h' => ?_))
    rw [if_pos hv]
    refine ⟨fun h0 => (by rw [hB2.1.1] at h0; cases h0), fun j hj => ?_⟩
    rw [hB2.1.1] at hj
    have e : j = u := by simpa using hj
    subst e
    refine wpOp_of_one hou (h' _ (fun a'' w'' _ h'' => ⟨?_, h''⟩))
    have e : (ls.setIfInBounds i true).setIfInBounds j true = markB [j, i] ls := by
      show _ = (ls.setIfInBounds j true).setIfInBounds i true
      rw [Array.setIfInBounds_comm _ _ (Ne.symm hne)]
    rw [e]; exact hend
end
def wpAppE (P : Program) (ops : Array Oper) (R : Exit → Act → World → Prop) (S : World → Prop) (mid pp : List Nat) (u v : Nat) (a : Act) (w : World) : Prop :=
  wpListK P ops R S (fun a w => wpQuiet P ops (fun _ => True) (fun a => wpListK P ops R (fun _ => True) (fun a w => R .normal a w) ([u, v].map (ops.getD · default)) a w ∧ wpListK P ops R (fun _ => True) (fun a w => R .normal a w) ([v, u].map (ops.getD · default)) a w) (pp.map (ops.getD · default)) a) (mid.map (ops.getD · default)) a w
theorem wp_app {P : Program} {id : Nat} {R : Exit → Act → World → Prop} {a : Act} {w : World} {l : List Oper} (S : World → Prop) (hd : List Nat) (x y : Nat) (mid pp : List Nat) (u v : Nat) (hm : P.follows .mixedOrders = true)
    (hB : (Region.noSelect l.toArray && pureB .any l.toArray hd (Array.replicate l.length false) && forkB l.toArray x y (markB hd (Array.replicate l.length false)) && forcedB l.toArray mid (markB [x, y] (markB hd (Array.replicate l.length false)))
      && pureB .any l.toArray pp (markB mid (markB [x, y] (markB hd (Array.replicate l.length false)))) && forkB l.toArray u v (markB pp (markB mid (markB [x, y] (markB hd (Array.replicate l.length false)))))
      && decide (Region.ready .any l.toArray (markB [u, v] (markB pp (markB mid (markB [x, y] (markB hd (Array.replicate l.length false)))))) = []) && decide (hd.length + (2 + (mid.length + (pp.length + 2))) = l.length)
      && (x :: y :: hd ++ mid ++ pp).all (fun i => ![u, v].contains i) && [u, v].all (fun z => sinkR l.toArray z hd) && hd.all (fun i => decide (i < l.length))) = true)
    (hQ : ∀ c a d v w, R (.panic c) (Act.put a d v) w → R (.panic c) a w) (hS : S w.drew)
    (h : wpQuiet P l.toArray S (fun a' => wpListK P l.toArray R S (wpAppE P l.toArray R S mid pp u v) ([x, y].map (l.toArray.getD · default)) a' w.drew ∧ wpListK P l.toArray R S (wpAppE P l.toArray R S mid pp u v) ([y, x].map (l.toArray.getD · default)) a' w.drew) (hd.map (l.toArray.getD · default)) a) : (Code.region id l.toArray true).wp P R a w := by
  simp only [Bool.and_eq_true, decide_eq_true_eq] at hB
  obtain ⟨⟨⟨⟨⟨⟨⟨⟨⟨⟨h1, h2⟩, h3⟩, h4⟩, h5⟩, h6⟩, h7⟩, h8⟩, h9⟩, h10⟩, h11⟩ := hB
  have hn := not_mem_of h9
  have hzs : ∀ i ∈ hd, ∀ ls, ClosedL l.toArray ls → ls.getD i true = false → ∀ z ∈ [u, v], z ∉ Region.ready .any l.toArray ls := fun i hi ls inv hun z hz hr => by
    have g := List.all_eq_true.1 h10 z hz
    have := sinkR_all inv hr hd (fun j hj => by have := List.all_eq_true.1 h11 j hj; simpa using this) g i hi
    rw [hun] at this; cases this
  have inv0 : ClosedL l.toArray (Array.replicate l.length false) := ⟨by simp, fun j oj hj hl => by
      rw [Array.getD_eq_getD_getElem?] at hl
      by_cases hjl : j < l.length
      · simp [hjl] at hl
      · simp [hjl] at hl⟩
  refine wp_region_any hm (wpAny_of_Z (S := S) (zs := [u, v]) _ _ _ _ ?_)
  have := headZ (zs := [u, v]) (S := S) (T := S) h1 hQ (fun _ h => h) hd (.inl hzs) (2 + (mid.length + (pp.length + 2))) w.drew hS _ a inv0 (fun i hi => hn i (by simp [hi])) h2
    (wpQuiet_mono (fun a' h' inv' => forkZ _ x y _ a' w.drew _ hS inv' (hn x (by simp)) (hn y (by simp)) h3 (fun a w hs inv2 he =>
      chainZ _ mid _ a w _ hs inv2 (fun i hi => hn i (by simp [hi])) h4 (fun a w hs inv3 he =>
        headZ (T := fun _ => True) h1 hQ (fun _ _ => trivial) pp (.inr fun _ => trivial) 2 w hs _ a inv3 (fun i hi => hn i (by simp [hi])) h5 (wpQuiet_mono (fun a h inv4 => endZ u v _ a w (by simp) (by simp) h6 h7 h.1 h.2) _ _ he)) he) h'.1 h'.2) _ _ h)
  rw [h8] at this
  exact this
def SWA (S : World → Prop) := {w : World // S w}
theorem put_panic {P : Program} {fn : Func} {Q : Ending → World → Prop} (c : List PanicEntry) (a : Act) (d : Option Tmp) (v : Value) (w : World) (h : bodyPost P fn Q (.panic c) (Act.put a d v) w) : bodyPost P fn Q (.panic c) a w := by
  cases d <;> exact h
/-- wp_app, of whatever worlds. -/
theorem wp_app_S {P : Program} {id : Nat} {R : Exit → Act → World → Prop} {a : Act} {w : World} {l : List Oper} (S : World → Prop) (hd : List Nat) (x y : Nat) (mid pp : List Nat) (u v : Nat) (hm : P.follows .mixedOrders = true)
    (hB : (Region.noSelect l.toArray && pureB .any l.toArray hd (Array.replicate l.length false) && forkB l.toArray x y (markB hd (Array.replicate l.length false)) && forcedB l.toArray mid (markB [x, y] (markB hd (Array.replicate l.length false)))
      && pureB .any l.toArray pp (markB mid (markB [x, y] (markB hd (Array.replicate l.length false)))) && forkB l.toArray u v (markB pp (markB mid (markB [x, y] (markB hd (Array.replicate l.length false)))))
      && decide (Region.ready .any l.toArray (markB [u, v] (markB pp (markB mid (markB [x, y] (markB hd (Array.replicate l.length false)))))) = []) && decide (hd.length + (2 + (mid.length + (pp.length + 2))) = l.length)
      && (x :: y :: hd ++ mid ++ pp).all (fun i => ![u, v].contains i) && [u, v].all (fun z => sinkR l.toArray z hd) && hd.all (fun i => decide (i < l.length))) = true)
    (hQ : ∀ c a d v w, R (.panic c) (Act.put a d v) w → R (.panic c) a w) (hS : S w.drew)
    (h : wpQuiet P l.toArray (fun w' => ∃ m : SWA S, w' = m.val) (fun a' => wpListK P l.toArray R (fun w' => ∃ m : SWA S, w' = m.val) (wpAppE P l.toArray R (fun w' => ∃ m : SWA S, w' = m.val) mid pp u v) ([x, y].map (l.toArray.getD · default)) a' w.drew ∧
      wpListK P l.toArray R (fun w' => ∃ m : SWA S, w' = m.val) (wpAppE P l.toArray R (fun w' => ∃ m : SWA S, w' = m.val) mid pp u v) ([y, x].map (l.toArray.getD · default)) a' w.drew) (hd.map (l.toArray.getD · default)) a) : (Code.region id l.toArray true).wp P R a w :=
  wp_app (fun w' => ∃ m : SWA S, w' = m.val) hd x y mid pp u v hm hB hQ ⟨⟨w.drew, hS⟩, rfl⟩ h
end Go.Proofs.YtcbepjepcabllaaGreatDoor
/- wp_plan, of whatever worlds. -/
set_option linter.unusedVariables false
namespace Go.Proofs.YtcbepjepcabllaaGreatDoor
open Go Go.RowKit
theorem wp_plan_A {P : Program} {id : Nat} {R : Exit → Act → World → Prop} {a : Act} {w : World} {l : List Oper} (S : World → Prop) (hS : S w.drew) (ps : List (List Nat × List Nat)) (hm : P.follows .mixedOrders = true)
    (hB : (Region.noSelect l.toArray && planB l.toArray ps (Array.replicate l.length false) && decide (planN ps = l.length)) = true)
    (hQ : ∀ c a d v w, R (.panic c) (Act.put a d v) w → R (.panic c) a w)
    (h : wpPlan P l.toArray R (fun w' => ∃ m : SWA S, w' = m.val) ps a w.drew) : (Code.region id l.toArray true).wp P R a w := by
  simp only [Bool.and_eq_true, decide_eq_true_eq] at hB
  refine wp_region_held (S := fun w' => ∃ m : SWA S, w' = m.val) hm ?_
  have := any_plan hB.1.1 hQ ps (Array.replicate l.length false) a w.drew ⟨⟨w.drew, hS⟩, rfl⟩ hB.1.2 h
  rw [hB.2] at this
  exact this
end Go.Proofs.YtcbepjepcabllaaGreatDoor
