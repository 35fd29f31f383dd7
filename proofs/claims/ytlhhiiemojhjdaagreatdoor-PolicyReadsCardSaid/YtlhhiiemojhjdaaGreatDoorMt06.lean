/- Texts of this proof, laid into one: App, KbL, KbM. -/
import Derived.Test.YtlhhiiemojhjdaaGreatDoorMt05
import Derived.Deep.MidRow
set_option linter.unusedVariables false
namespace Go.Proofs.YtlhhiiemojhjdaaGreatDoor
open Go Go.RowKit
section
variable {P : Program} {ops : Array Oper} {R : Exit → Act → World → Prop} {S : World → Prop}
theorem forkZ {zs : List Nat} (f x y : Nat) (ls : Array Bool) (a : Act) (w : World) (E : Act → World → Prop) (hS : S w) (inv : ClosedL ops ls) (hx : x ∉ zs) (hy : y ∉ zs) (hB : forkB ops x y ls = true)
    (hE : ∀ a w, S w → ClosedL ops (markB [x, y] ls) → E a w → wpAnyZ P ops R S zs f (markB [x, y] ls) a w)
    (h1 : wpListK P ops R S E ([x, y].map (ops.getD · default)) a w) (h2 : wpListK P ops R S E ([y, x].map (ops.getD · default)) a w) : wpAnyZ P ops R S zs (2 + f) ls a w := by
  simp only [forkB, Bool.and_eq_true, decide_eq_true_eq] at hB
  obtain ⟨⟨⟨⟨⟨hr, hx2⟩, hy2⟩, hne⟩, hB1⟩, hB2⟩ := hB
  rw [show 2 + f = (1 + f) + 1 by omega]
  refine ⟨fun h0 => (by rw [hr] at h0; cases h0), fun i hi => ?_⟩
  have hi' := hi
  rw [hr] at hi
  have hi : i = x ∨ i = y := by simpa using hi
  rcases hi with rfl | rfl
  · obtain ⟨o, ho⟩ := Option.isSome_iff_exists.1 hx2
    have hk : ops.getD i default = o := by simp [Array.getD_eq_getD_getElem?, ho]
    rw [List.map_cons, hk] at h1
    refine wpOp_of_one ho (h1 _ (fun a' w' hs h' => ?_))
    rw [if_neg hx]
    refine ⟨hs, chainZ f [y] _ a' w' E hs (inv.set hi') (fun j hj => by simp at hj; rw [hj]; exact hy) hB1 hE h'⟩
  · obtain ⟨o, ho⟩ := Option.isSome_iff_exists.1 hy2
    have hk : ops.getD i default = o := by simp [Array.getD_eq_getD_getElem?, ho]
    rw [List.map_cons, hk] at h2
    refine wpOp_of_one ho (h2 _ (fun a' w' hs h' => ?_))
    rw [if_neg hy]
    refine ⟨hs, chainZ f [x] _ a' w' E hs (inv.set hi') (fun j hj => by simp at hj; rw [hj]; exact hx) hB2 (fun a w hs hc he => ?_) h'⟩
    have e : markB [x] (ls.setIfInBounds i true) = markB [x, i] ls := by
      show (ls.setIfInBounds i true).setIfInBounds x true = (ls.setIfInBounds x true).setIfInBounds i true
      rw [Array.setIfInBounds_comm _ _ (Ne.symm hne)]
    rw [e] at hc ⊢
    exact hE a w hs hc he
theorem endZ {zs : List Nat} (u v : Nat) (ls : Array Bool) (a : Act) (w : World) (hu : u ∈ zs) (hv : v ∈ zs) (hB : forkB ops u v ls = true) (hend : Region.ready .any ops (markB [u, v] ls) = [])
    (h1 : wpListK P ops R (fun _ => True) (fun a w => R .normal a w) ([u, v].map (ops.getD · default)) a w) (h2 : wpListK P ops R (fun _ => True) (fun a w => R .normal a w) ([v, u].map (ops.getD · default)) a w) : wpAnyZ P ops R S zs 2 ls a w := by
  simp only [forkB, Bool.and_eq_true, decide_eq_true_eq] at hB
  obtain ⟨⟨⟨⟨⟨hr, hu2⟩, hv2⟩, hne⟩, hB1⟩, hB2⟩ := hB
  simp only [forcedB, Bool.and_eq_true, decide_eq_true_eq] at hB1 hB2
  refine ⟨fun h0 => (by rw [hr] at h0; cases h0), fun i hi => ?_⟩
  rw [hr] at hi
  have hi : i = u ∨ i = v := by simpa using hi
  obtain ⟨ou, hou⟩ := Option.isSome_iff_exists.1 hu2
  obtain ⟨ov, hov⟩ := Option.isSome_iff_exists.1 hv2
  have hku : ops.getD u default = ou := by simp [Array.getD_eq_getD_getElem?, hou]
  have hkv : ops.getD v default = ov := by simp [Array.getD_eq_getD_getElem?, hov]
  simp only [List.map_cons, List.map_nil, hku, hkv] at h1 h2
  rcases hi with rfl | rfl
  · refine wpOp_of_one hou (h1 _ (fun a' w' _ h' => ?_))
    rw [if_pos hu]
    refine ⟨fun h0 => (by rw [hB1.1.1] at h0; cases h0), fun j hj => ?_⟩
    rw [hB1.1.1] at hj
    have e : j = v := by simpa using hj
    subst e
    exact wpOp_of_one hov (h' _ (fun a'' w'' _ h'' => ⟨hend, h''⟩))
  · refine wpOp_of_one hov (h2 _ (fun a' w' _ h' => ?_))
    rw [if_pos hv]
    refine ⟨fun h0 => (by rw [hB2.1.1] at h0; cases h0), fun j hj => ?_⟩
    rw [hB2.1.1] at hj
    have e : j = u := by simpa using hj
    subst e
    refine wpOp_of_one hou (h' _ (fun a'' w'' _ h'' => ⟨?_, h''⟩))
    have e : (ls.setIfInBounds i true).setIfInBounds j true = markB [j, i] ls := by
      show _ = (ls.setIfInBounds j true).setIfInBounds i true
      rw [Array.setIfInBounds_comm _ _ (Ne.symm hne)]
    rw [e]; exact hend
end
def wpAppE (P : Program) (ops : Array Oper) (R : Exit → Act → World → Prop) (S : World → Prop) (mid pp : List Nat) (u v : Nat) (a : Act) (w : World) : Prop :=
  wpListK P ops R S (fun a w => wpQuiet P ops (fun _ => True) (fun a => wpListK P ops R (fun _ => True) (fun a w => R .normal a w) ([u, v].map (ops.getD · default)) a w ∧ wpListK P ops R (fun _ => True) (fun a w => R .normal a w) ([v, u].map (ops.getD · default)) a w) (pp.map (ops.getD · default)) a) (mid.map (ops.getD · default)) a w
theorem wp_app {P : Program} {id : Nat} {R : Exit → Act → World → Prop} {a : Act} {w : World} {l : List Oper} (S : World → Prop) (hd : List Nat) (x y : Nat) (mid pp : List Nat) (u v : Nat) (hm : P.follows .mixedOrders = true)
    (hB : (Region.noSelect l.toArray && pureB .any l.toArray hd (Array.replicate l.length false) && forkB l.toArray x y (markB hd (Array.replicate l.length false)) && forcedB l.toArray mid (markB [x, y] (markB hd (Array.replicate l.length false)))
      && pureB .any l.toArray pp (markB mid (markB [x, y] (markB hd (Array.replicate l.length false)))) && forkB l.toArray u v (markB pp (markB mid (markB [x, y] (markB hd (Array.replicate l.length false)))))
      && decide (Region.ready .any l.toArray (markB [u, v] (markB pp (markB mid (markB [x, y] (markB hd (Array.replicate l.length false)))))) = []) && decide (hd.length + (2 + (mid.length + (pp.length + 2))) = l.length)
      && (x :: y :: hd ++ mid ++ pp).all (fun i => ![u, v].contains i) && [u, v].all (fun z => sinkR l.toArray z hd) && hd.all (fun i => decide (i < l.length))) = true)
    (hQ : ∀ c a d v w, R (.panic c) (Act.put a d v) w → R (.panic c) a w) (hS : S w.drew)
    (h : wpQuiet P l.toArray S (fun a' => wpListK P l.toArray R S (wpAppE P l.toArray R S mid pp u v) ([x, y].map (l.toArray.getD · default)) a' w.drew ∧ wpListK P l.toArray R S (wpAppE P l.toArray R S mid pp u v) ([y, x].map (l.toArray.getD · default)) a' w.drew) (hd.map (l.toArray.getD · default)) a) : (Code.region id l.toArray true).wp P R a w := by
  simp only [Bool.and_eq_true, decide_eq_true_eq] at hB
  obtain ⟨⟨⟨⟨⟨⟨⟨⟨⟨⟨h1, h2⟩, h3⟩, h4⟩, h5⟩, h6⟩, h7⟩, h8⟩, h9⟩, h10⟩, h11⟩ := hB
  have hn := not_mem_of h9
  have hzs : ∀ i ∈ hd, ∀ ls, ClosedL l.toArray ls → ls.getD i true = false → ∀ z ∈ [u, v], z ∉ Region.ready .any l.toArray ls := fun i hi ls inv hun z hz hr => by
    have g := List.all_eq_true.1 h10 z hz
    have := sinkR_all inv hr hd (fun j hj => by have := List.all_eq_true.1 h11 j hj; simpa using this) g i hi
    rw [hun] at this; cases this
  have inv0 : ClosedL l.toArray (Array.replicate l.length false) := ⟨by simp, fun j oj hj hl => by
      rw [Array.getD_eq_getD_getElem?] at hl
      by_cases hjl : j < l.length
      · simp [hjl] at hl
      · simp [hjl] at hl⟩
  refine wp_region_any hm (wpAny_of_Z (S := S) (zs := [u, v]) _ _ _ _ ?_)
  have := headZ (zs := [u, v]) (S := S) (T := S) h1 hQ (fun _ h => h) hd (.inl hzs) (2 + (mid.length + (pp.length + 2))) w.drew hS _ a inv0 (fun i hi => hn i (by simp [hi])) h2
    (wpQuiet_mono (fun a' h' inv' => forkZ _ x y _ a' w.drew _ hS inv' (hn x (by simp)) (hn y (by simp)) h3 (fun a w hs inv2 he =>
      chainZ _ mid _ a w _ hs inv2 (fun i hi => hn i (by simp [hi])) h4 (fun a w hs inv3 he =>
        headZ (T := fun _ => True) h1 hQ (fun _ _ => trivial) pp (.inr fun _ => trivial) 2 w hs _ a inv3 (fun i hi => hn i (by simp [hi])) h5 (wpQuiet_mono (fun a h inv4 => endZ u v _ a w (by simp) (by simp) h6 h7 h.1 h.2) _ _ he)) he) h'.1 h'.2) _ _ h)
  rw [h8] at this
  exact this
def SWA (S : World → Prop) := {w : World // S w}
theorem put_panic {P : Program} {fn : Func} {Q : Ending → World → Prop} (c : List PanicEntry) (a : Act) (d : Option Tmp) (v : Value) (w : World) (h : bodyPost P fn Q (.panic c) (Act.put a d v) w) : bodyPost P fn Q (.panic c) a w := by
  cases d <;> exact h
theorem wp_app_S {P : Program} {id : Nat} {R : Exit → Act → World → Prop} {a : Act} {w : World} {l : List Oper} (S : World → Prop) (hd : List Nat) (x y : Nat) (mid pp : List Nat) (u v : Nat) (hm : P.follows .mixedOrders = true)
    (hB : (Region.noSelect l.toArray && pureB .any l.toArray hd (Array.replicate l.length false) && forkB l.toArray x y (markB hd (Array.replicate l.length false)) && forcedB l.toArray mid (markB [x, y] (markB hd (Array.replicate l.length false)))
      && pureB .any l.toArray pp (markB mid (markB [x, y] (markB hd (Array.replicate l.length false)))) && forkB l.toArray u v (markB pp (markB mid (markB [x, y] (markB hd (Array.replicate l.length false)))))
      && decide (Region.ready .any l.toArray (markB [u, v] (markB pp (markB mid (markB [x, y] (markB hd (Array.replicate l.length false)))))) = []) && decide (hd.length + (2 + (mid.length + (pp.length + 2))) = l.length)
      && (x :: y :: hd ++ mid ++ pp).all (fun i => ![u, v].contains i) && [u, v].all (fun z => sinkR l.toArray z hd) && hd.all (fun i => decide (i < l.length))) = true)
    (hQ : ∀ c a d v w, R (.panic c) (Act.put a d v) w → R (.panic c) a w) (hS : S w.drew)
    (h : wpQuiet P l.toArray (fun w' => ∃ m : SWA S, w' = m.val) (fun a' => wpListK P l.toArray R (fun w' => ∃ m : SWA S, w' = m.val) (wpAppE P l.toArray R (fun w' => ∃ m : SWA S, w' = m.val) mid pp u v) ([x, y].map (l.toArray.getD · default)) a' w.drew ∧
      wpListK P l.toArray R (fun w' => ∃ m : SWA S, w' = m.val) (wpAppE P l.toArray R (fun w' => ∃ m : SWA S, w' = m.val) mid pp u v) ([y, x].map (l.toArray.getD · default)) a' w.drew) (hd.map (l.toArray.getD · default)) a) : (Code.region id l.toArray true).wp P R a w :=
  wp_app (fun w' => ∃ m : SWA S, w' = m.val) hd x y mid pp u v hm hB hQ ⟨⟨w.drew, hS⟩, rfl⟩ h
end Go.Proofs.YtlhhiiemojhjdaaGreatDoor
set_option linter.unusedVariables false
set_option linter.unusedSimpArgs false
namespace Go.Proofs.YtlhhiiemojhjdaaGreatDoor
open Go Go.RowKit
def zeroC : List Value := [.int .i64 0, .string ⟨#[]⟩, .slice none 0 0, .slice none 0 0]
theorem info_json : (Tryz.prog.info? 46).map (fun i => (i.zero, i.size, i.bytes)) = some (some (.agg #[.int .i64 0, .string ⟨#[]⟩, .slice none 0 0, .slice none 0 0]), 4, 72) := by kernel_rfl
theorem JOK.frameX {w w' : World} {X : Nat → Prop} : ∀ {ks : List JsonD} {lo hi : Nat} {cells : List Value}, (∀ b, lo ≤ b → b < hi → ¬ X b → b < w.heap.size → w'.heap[b]? = w.heap[b]?) → JOK w X ks lo hi cells → JOK w' X ks lo hi cells
  | [], lo, hi, cells, _, h => by rw [JOK] at h ⊢; exact h
  | j :: r, lo, hi, cells, hf, h => by
    rw [JOK] at h ⊢
    obtain ⟨vn, vk, rest, l, h', e, a1, a2, a3, a4, a5, a6⟩ := h
    refine ⟨vn, vk, rest, l, h', e, a1, a2, a3, a4, JO.frame j l h' vn vk (fun b b1 b2 b3 => hf b (by omega) (by omega) (fun hx => by have := a4 b hx; omega) b3) a5, JOK.frameX (fun b b1 b2 hx b3 => hf b (by omega) b2 hx b3) a6⟩
structure LstV (w : World) (jb : Nat) (k : Int) (ns : List Txt) (acc : List JsonD) (vn vk : Value) (cells : List Value) : Prop where
  blk : w.heap[jb]? = some (.cells (jsonC k [] vn vk).toArray 46 (0, 0))
  nrow : w.ownsRow (jb + 1) 9 1 vn ns.length (ns.map strV)
  krow : w.ownsRow (jb + 1) 46 4 vk acc.length cells
  kids : JOK w (fun b => vn.ownBlock = some b ∨ vk.ownBlock = some b) acc (jb + 1) w.heap.size cells
def LstB (w : World) (jb : Nat) (k : Int) (ns : List Txt) (acc : List JsonD) : Prop := ∃ vn vk cells, LstV w jb k ns acc vn vk cells
theorem LstV.lt {w : World} {jb : Nat} {k : Int} {ns : List Txt} {acc : List JsonD} {vn vk : Value} {cells : List Value} (h : LstV w jb k ns acc vn vk cells) : jb < w.heap.size := lt_of_heap h.blk
theorem LstV.gx {w w' : World} {jb b : Nat} {k : Int} {ns : List Txt} {acc : List JsonD} {vn vk : Value} {cells : List Value} (h : LstV w jb k ns acc vn vk cells) (hg : GX [b] w w') (hb : b < jb) : LstV w' jb k ns acc vn vk cells := by
  have hf : ∀ b', jb ≤ b' → b' < w.heap.size → w'.heap[b']? = w.heap[b']? := fun b' h1 h2 => hg.block b' h2 (by simp; omega)
  refine ⟨(hf jb (Nat.le_refl _) h.lt).trans h.blk, ownsRow_frame h.nrow (fun b' h1 h2 => hf b' (by have := (ownsRow_base h.nrow h1).1; omega) h2), ownsRow_frame h.krow (fun b' h1 h2 => hf b' (by have := (ownsRow_base h.krow h1).1; omega) h2), ?_⟩
  exact JOK.widen (JOK.frame _ acc _ _ _ (fun b' h1 h2 h3 => hf b' (by omega) h3) h.kids) (Nat.le_refl _) hg.size (fun b h => .inl h)
theorem LstB.gx {w w' : World} {jb b : Nat} {k : Int} {ns : List Txt} {acc : List JsonD} (h : LstB w jb k ns acc) (hg : GX [b] w w') (hb : b < jb) : LstB w' jb k ns acc := by
  obtain ⟨vn, vk, cells, h⟩ := h
  exact ⟨vn, vk, cells, h.gx hg hb⟩
theorem LstB.start {w : World} {jb : Nat} {k : Int} (h : w.heap[jb]? = some (.cells (jsonC k [] (.slice none 0 0) (.slice none 0 0)).toArray 46 (0, 0))) : LstB w jb k [] [] :=
  ⟨_, _, [], h, World.ownsRow_nil _ _ _ _, World.ownsRow_nil _ _ _ _, by rw [JOK]⟩
theorem LstB.toJO {w : World} {jb lo : Nat} {k : Int} {ns : List Txt} {acc : List JsonD} (h : LstB w jb k ns acc) (hlo : lo ≤ jb + 1) : ∃ vn vk, w.heap[jb]? = some (.cells (jsonC k [] vn vk).toArray 46 (0, 0)) ∧ JO w (.mk k [] ns acc) lo w.heap.size vn vk := by
  obtain ⟨vn, vk, cells, h⟩ := h
  refine ⟨vn, vk, h.blk, ?_⟩
  rw [JO]
  have hlt := h.lt
  exact ⟨by omega, ownsRow_low h.nrow hlo, fun b hb => (ownsRow_base h.nrow hb).2, fun b hb => (ownsRow_base h.krow hb).2, cells, ownsRow_low h.krow hlo, h.kids.widen hlo (Nat.le_refl _) (fun b hb => .inl hb)⟩
theorem LstV.kid {W W1 W4 : World} {jb b : Nat} {k : Int} {ns : List Txt} {acc : List JsonD} {vn vk vk' un uk : Value} {cells : List Value} {v : JsonD} (h : LstV W jb k ns acc vn vk cells) (h1 : GX [b] W W1) (hb : b < jb)
    (hv : JO W1 v W.heap.size W1.heap.size un uk) (hs : W1.heap.size ≤ W4.heap.size) (hblk : W4.heap[jb]? = some (.cells (jsonC k [] vn vk').toArray 46 (0, 0)))
    (hrow : W4.ownsRow (jb + 1) 46 4 vk' (acc.length + 1) (cells ++ cellJ v un uk)) (hf : ∀ b', b' < W1.heap.size → b' ≠ jb → vk.ownBlock ≠ some b' → W4.heap[b']? = W1.heap[b']?)
    (ho : vk'.ownBlock = vk.ownBlock ∨ ∃ n, W1.heap.size ≤ n ∧ vk'.ownBlock = some n) : LstV W4 jb k ns (acc ++ [v]) vn vk' (cells ++ cellJ v un uk) := by
  have g := h.gx h1 hb
  have hkb : ∀ b', vk.ownBlock = some b' → jb + 1 ≤ b' ∧ b' < W.heap.size := fun b' hb' => ownsRow_base h.krow hb'
  have hnb : ∀ b', vn.ownBlock = some b' → jb + 1 ≤ b' ∧ b' < W.heap.size := fun b' hb' => ownsRow_base h.nrow hb'
  have hne : ∀ b', vn.ownBlock = some b' → vk.ownBlock ≠ some b' := fun b' e1 e2 => by
    rcases h.nrow.2 with ⟨e, _⟩ | ⟨g1, c1, cur1, e, _, e3, _⟩
    · rw [e] at e1; cases e1
    · rcases h.krow.2 with ⟨f, _⟩ | ⟨g2, c2, cur2, f, _, f3, _⟩
      · rw [f] at e2; cases e2
      · rw [e] at e1; rw [f] at e2
        simp [Value.ownBlock] at e1 e2
        subst e1 e2
        rw [e3] at f3
        injection f3 with f3
        injection f3 with _ f3 _
        exact absurd f3 (by decide)
  have hlt := h.lt
  have h1s := h1.size
  refine ⟨hblk, ownsRow_frame g.nrow (fun b' e hlt' => hf b' hlt' (by have := hnb b' e; omega) (hne b' e)), by rw [List.length_append]; exact hrow, ?_⟩
  have hX : ∀ b', (vn.ownBlock = some b' ∨ vk'.ownBlock = some b') → (vn.ownBlock = some b' ∨ vk.ownBlock = some b') ∨ b' < jb + 1 ∨ W1.heap.size ≤ b' := fun b' e => by
    rcases e with e | e
    · exact .inl (.inl e)
    · rcases ho with ho | ⟨n, hn, ho⟩
      · rw [ho] at e; exact .inl (.inr e)
      · rw [ho] at e; injection e with e; right; right; omega
  have hk1 : JOK W1 (fun b => vn.ownBlock = some b ∨ vk.ownBlock = some b) acc (jb + 1) W.heap.size cells := JOK.frame _ acc _ _ _ (fun b' e1 e2 e3 => h1.block b' e3 (by simp; omega)) h.kids
  have hk4 : JOK W4 (fun b => vn.ownBlock = some b ∨ vk.ownBlock = some b) acc (jb + 1) W.heap.size cells := JOK.frameX (fun b' e1 e2 hx e3 => hf b' e3 (by omega) (fun e => hx (.inr e))) hk1
  have hv4 : JO W4 v W.heap.size W1.heap.size un uk := JO.frame v _ _ un uk (fun b' e1 e2 e3 => hf b' e3 (by omega) (fun e => by have := hkb b' e; omega)) hv
  refine JOK.snoc hv4 hs (fun b' e => ?_) (hk4.widen (Nat.le_refl _) (Nat.le_refl _) (fun b' e => by
    rcases hX b' e with h | h | h
    · exact .inl h
    · exact .inr (.inl h)
    · right; right; omega)) (by omega)
  rcases hX b' e with h | h | h
  · left
    rcases h with h | h
    · exact (hnb b' h).2
    · exact (hkb b' h).2
  · left; omega
  · right; omega
theorem LstV.name {W W4 : World} {jb : Nat} {k : Int} {ns : List Txt} {acc : List JsonD} {vn vk vn' : Value} {cells : List Value} {t : Txt} (h : LstV W jb k ns acc vn vk cells) (hs : W.heap.size ≤ W4.heap.size)
    (hblk : W4.heap[jb]? = some (.cells (jsonC k [] vn' vk).toArray 46 (0, 0))) (hrow : W4.ownsRow (jb + 1) 9 1 vn' (ns.length + 1) (ns.map strV ++ [strV t])) (hf : ∀ b', b' < W.heap.size → b' ≠ jb → vn.ownBlock ≠ some b' → W4.heap[b']? = W.heap[b']?)
    (ho : vn'.ownBlock = vn.ownBlock ∨ ∃ n, W.heap.size ≤ n ∧ vn'.ownBlock = some n) : LstV W4 jb k (ns ++ [t]) acc vn' vk cells := by
  have hkb : ∀ b', vk.ownBlock = some b' → jb + 1 ≤ b' ∧ b' < W.heap.size := fun b' hb' => ownsRow_base h.krow hb'
  have hne : ∀ b', vk.ownBlock = some b' → vn.ownBlock ≠ some b' := fun b' e2 e1 => by
    rcases h.nrow.2 with ⟨e, _⟩ | ⟨g1, c1, cur1, e, _, e3, _⟩
    · rw [e] at e1; cases e1
    · rcases h.krow.2 with ⟨f, _⟩ | ⟨g2, c2, cur2, f, _, f3, _⟩
      · rw [f] at e2; cases e2
      · rw [e] at e1; rw [f] at e2
        simp [Value.ownBlock] at e1 e2
        subst e1 e2
        rw [e3] at f3
        injection f3 with f3
        injection f3 with _ f3 _
        exact absurd f3 (by decide)
  have hlt := h.lt
  refine ⟨hblk, by rw [List.length_append, List.map_append]; exact hrow, ownsRow_frame h.krow (fun b' e hlt' => hf b' hlt' (by have := hkb b' e; omega) (hne b' e)), ?_⟩
  have hk4 : JOK W4 (fun b => vn.ownBlock = some b ∨ vk.ownBlock = some b) acc (jb + 1) W.heap.size cells := JOK.frameX (fun b' e1 e2 hx e3 => hf b' e3 (by omega) (fun e => hx (.inl e))) h.kids
  refine JOK.widen hk4 (Nat.le_refl _) hs (fun b' e => ?_)
  rcases e with e | e
  · rcases ho with ho | ⟨n, hn, ho⟩
    · rw [ho] at e; exact .inl (.inl e)
    · rw [ho] at e; injection e with e; right; right; omega
  · exact .inl (.inr e)
theorem GX.sub {S T : List Nat} {w0 w w' : World} (h : GX S w0 w) (k : GX T w w') (hT : ∀ b ∈ T, b ∈ S ∨ w0.heap.size ≤ b) : GX S w0 w' :=
  ⟨k.os.trans h.os, k.tape.trans h.tape, k.output.trans h.output, Nat.le_trans h.size k.size, fun b hb hn => (k.block b (Nat.lt_of_lt_of_le hb h.size) (fun e => by rcases hT b e with h1 | h1; exact hn h1; omega)).trans (h.block b hb hn)⟩
theorem GX.gbo {w w' : World} {row : Option Nat} (h : w.grownBy w' row) : GX row.toList w w' :=
  ⟨h.os, h.tape, h.output, h.size, fun k hk hn => h.block k hk (fun e => hn (by rw [← e]; simp))⟩
theorem there_row {w : World} {g : Nat} {cur : Array Value} {t : TypeId} {o n : Nat} (h : w.heap[g]? = some (.cells cur t (0, 0))) (hn : o + n ≤ cur.size) : w.there g o n := fun j hj =>
  ⟨by rw [cell_of_row _ _ _ _ _ _ h, Array.getElem?_eq_getElem (by omega)]; rfl, frozen_of_row w g (o + j) _ _ h⟩
theorem row_last {w : World} {g cap n base : Nat} {t : TypeId} {cells z vs : List Value} {cur : Array Value} (h : w.heap[g]? = some (.cells cur t (0, 0))) (hb : base ≤ g) (hn : n + 1 ≤ cap) (hm : cap ≤ maxLen) (hc : cur.size = cap * 4) (ht : cur.toList.take ((n + 1) * 4) = cells ++ z)
    (hl : cells.length = n * 4) (hv : vs.length = 4) : ∃ cur', (w.setCells g (n * 4) vs).heap[g]? = some (.cells cur' t (0, 0)) ∧ cur'.size = cap * 4 ∧ cur'.toList.take ((n + 1) * 4) = cells ++ vs := by
  have hh := heap_setCells g t (0, 0) vs (n * 4) w cur h (by omega)
  refine ⟨_, hh, by simp; omega, ?_⟩
  have e1 : cur.toList.take (n * 4) = cells := by
    have := congrArg (List.take (n * 4)) ht
    rw [List.take_take, Nat.min_eq_left (by omega), List.take_left' hl] at this
    exact this
  show List.take ((n + 1) * 4) (cur.toList.take (n * 4) ++ vs ++ cur.toList.drop (n * 4 + vs.length)) = cells ++ vs
  rw [e1, List.take_left' (by rw [List.length_append, hl, hv]; omega)]
theorem jo_form {w : World} {j : JsonD} {lo hi : Nat} {un uk : Value} (h : JO w j lo hi un uk) : (∃ A n c, un = .slice A n c) ∧ ∃ A n c, uk = .slice A n c := by
  obtain ⟨k, t, ns, ks⟩ := j
  rw [JO] at h
  obtain ⟨_, h1, _, _, cells, h2, _⟩ := h
  obtain ⟨A, c, e, _⟩ := row_cells h1 (by simp)
  obtain ⟨A', c', e', _⟩ := row_cells h2 h2.1
  exact ⟨⟨_, _, _, e⟩, _, _, _, e'⟩
theorem cellJ_one {j : JsonD} {un uk : Value} (h1 : ∃ A n c, un = .slice A n c) (h2 : ∃ A n c, uk = .slice A n c) : (cellJ j un uk).toArray.all (·.oneCell') = true := by
  obtain ⟨_, _, _, rfl⟩ := h1
  obtain ⟨_, _, _, rfl⟩ := h2
  simp [cellJ, jsonC, Value.oneCell']
structure Two (w3 W4 : World) (g jb : Nat) (t : TypeId) (n cap : Nat) (cs : List Value) (jc : List Value) : Prop where
  gx : GX [g, jb] w3 W4
  row : ∃ cur, W4.heap[g]? = some (.cells cur t (0, 0)) ∧ cur.size = cap * 4 ∧ cur.toList.take ((n + 1) * 4) = cs
  blk : W4.heap[jb]? = some (.cells jc.toArray 46 (0, 0))
theorem two_a {w3 : World} {g jb cap n base : Nat} {t : TypeId} {cells z vs jc : List Value} {cur : Array Value} (h : w3.heap[g]? = some (.cells cur t (0, 0))) (hb : base ≤ g) (hn : n + 1 ≤ cap) (hm : cap ≤ maxLen) (hc : cur.size = cap * 4) (ht : cur.toList.take ((n + 1) * 4) = cells ++ z)
    (hl : cells.length = n * 4) (hv : vs.length = 4) (hj : w3.heap[jb]? = some (.cells jc.toArray 46 (0, 0))) (hne : g ≠ jb) (i : Nat) (u : Value) : Two w3 ((w3.setCells g (n * 4) vs).setCell ⟨jb, i, none⟩ u) g jb t n cap (cells ++ vs) (jc.set i u) := by
  obtain ⟨cur', h1, h2, h3⟩ := row_last h hb hn hm hc ht hl hv
  refine ⟨(GX.gb (setCells_gb g vs _ _) (by simp)).set (by simp) _ _, ⟨cur', ?_, h2, h3⟩, ?_⟩
  · rw [heap_setCell_other _ ⟨jb, i, none⟩ g u (by simpa using hne)]; exact h1
  · rw [heap_setCell_any _ jb i jc.toArray 46 (0, 0) u (by rw [(setCells_gb g vs _ _).block jb (lt_of_heap hj) (by simpa using Ne.symm hne)]; exact hj)]
    simp
theorem two_b {w3 : World} {g jb cap n base : Nat} {t : TypeId} {cells z vs jc : List Value} {cur : Array Value} (h : w3.heap[g]? = some (.cells cur t (0, 0))) (hb : base ≤ g) (hn : n + 1 ≤ cap) (hm : cap ≤ maxLen) (hc : cur.size = cap * 4) (ht : cur.toList.take ((n + 1) * 4) = cells ++ z)
    (hl : cells.length = n * 4) (hv : vs.length = 4) (hj : w3.heap[jb]? = some (.cells jc.toArray 46 (0, 0))) (hne : g ≠ jb) (i : Nat) (u : Value) : Two w3 ((w3.setCell ⟨jb, i, none⟩ u).setCells g (n * 4) vs) g jb t n cap (cells ++ vs) (jc.set i u) := by
  have h' : (w3.setCell ⟨jb, i, none⟩ u).heap[g]? = some (.cells cur t (0, 0)) := by rw [heap_setCell_other _ ⟨jb, i, none⟩ g u (by simpa using hne)]; exact h
  obtain ⟨cur', h1, h2, h3⟩ := row_last h' hb hn hm hc ht hl hv
  have hj' : (w3.setCell ⟨jb, i, none⟩ u).heap[jb]? = some (.cells (jc.set i u).toArray 46 (0, 0)) := by
    rw [heap_setCell_any _ jb i jc.toArray 46 (0, 0) u hj]; simp
  refine ⟨((GX.refl [g, jb] w3).set (by simp) _ _).trans (GX.gb (setCells_gb g vs _ _) (by simp)), ⟨cur', h1, h2, h3⟩, ?_⟩
  rw [(setCells_gb g vs _ _).block jb (lt_of_heap hj') (by simpa using Ne.symm hne)]; exact hj'
end Go.Proofs.YtlhhiiemojhjdaaGreatDoor
set_option linter.unusedVariables false
set_option linter.unusedSimpArgs false
namespace Go.Proofs.YtlhhiiemojhjdaaGreatDoor
open Go Go.RowKit
def ValP (b : Nat) (s : Txt) (w : World) (a : PR JsonD) (e : Ending) (w' : World) : Prop :=
  match a with
  | .ok j r => (∃ vn vk, e = .returned (.agg (cellJ j vn vk).toArray) ∧ JO w' j w.heap.size w'.heap.size vn vk) ∧ (∃ q, q ≤ s.length ∧ s.drop q = r ∧ RdB w' b s q) ∧ GX [b] w w'
  | .bad c n => Gave b s c n w e w'
def ValAll (d : Nat) (wB : World) (b : Nat) (s : Txt) : Prop := ∀ q W, RdB W b s q → RB wB b W → q ≤ s.length →
  Calls Tryz.prog 45 #[.pointer (some ⟨b, 0, none⟩), .int .i64 (20 - (d : Int))] W (ValP b s W (valR d (s.drop q)))
structure BoxJ (w : World) (rb ab b d : Nat) : Prop where
  r : w.cell? ⟨rb, 0, none⟩ = some (.pointer (some ⟨b, 0, none⟩))
  a : w.cell? ⟨ab, 0, none⟩ = some (.int .i64 (20 - (d : Int)))
  z : w.heap[ab + 1]? = some (.cells zeroC.toArray 46 (0, 0))
  br : b < rb
  ba : b < ab
theorem BoxJ.gx {w w' : World} {rb ab b d : Nat} (h : BoxJ w rb ab b d) (hg : GX [b] w w') : BoxJ w' rb ab b d := by
  have h1 := h.br
  have h2 := h.ba
  exact ⟨hg.cellJ (by simp; omega) h.r, hg.cellJ (by simp; omega) h.a, hg.heap (by simp; omega) h.z, h1, h2⟩
theorem BoxJ.low {w w' : World} {rb ab b d jb : Nat} (h : BoxJ w rb ab b d) (hr : rb < jb) (ha : ab + 1 < jb) (hl : ∀ k, k < jb → k < w.heap.size → w'.heap[k]? = w.heap[k]?) : BoxJ w' rb ab b d := by
  have h1 := h.r
  have h2 := h.a
  have l1 := lt_of_cell h1
  have l2 := lt_of_cell h2
  refine ⟨?_, ?_, (hl _ ha (lt_of_heap h.z)).trans h.z, h.br, h.ba⟩
  · unfold World.cell? at h1 ⊢
    rw [hl rb hr l1]; exact h1
  · unfold World.cell? at h2 ⊢
    rw [hl ab (by omega) l2]; exact h2
def ItemI (jb rb ab b d : Nat) (acc : List JsonD) (w : World) : Prop := LstB w jb 6 [] acc ∧ BoxJ w rb ab b (d + 1) ∧ b < jb ∧ rb < jb ∧ ab + 1 < jb
theorem ItemI.gx {jb rb ab b d : Nat} {acc : List JsonD} {w w' : World} (h : ItemI jb rb ab b d acc w) (hg : GX [b] w w') : ItemI jb rb ab b d acc w' :=
  ⟨h.1.gx hg h.2.2.1, h.2.1.gx hg, h.2.2⟩
def SIt (jb rb ab : Nat) (vk : Value) (b : Nat) (D : Int) (W : World) : Prop := W.cell? ⟨jb, 3, none⟩ = some vk ∧ W.cell? ⟨rb, 0, none⟩ = some (.pointer (some ⟨b, 0, none⟩)) ∧ W.cell? ⟨ab, 0, none⟩ = some (.int .i64 D)
theorem SIt.gx {jb rb ab : Nat} {vk : Value} {b : Nat} {D : Int} {W W' : World} {S : List Nat} (h : SIt jb rb ab vk b D W) (hg : GX S W W') (h1 : jb ∉ S) (h2 : rb ∉ S) (h3 : ab ∉ S) : SIt jb rb ab vk b D W' :=
  ⟨hg.cellJ h1 h.1, hg.cellJ h2 h.2.1, hg.cellJ h3 h.2.2⟩
structure KidSt (W : World) (b : Nat) (s : Txt) (v : JsonD) (r : Txt) (un uk : Value) (N : Nat) (W2 : World) : Prop where
  gx : GX [b] W W2
  jo : JO W2 v W.heap.size W2.heap.size un uk
  rd : ∃ q, q ≤ s.length ∧ s.drop q = r ∧ RdB W2 b s q
  z : W2.heap[N]? = some (.cells zeroC.toArray 46 (0, 0))
theorem kidSt_one {W W1 : World} {b : Nat} {s : Txt} {v : JsonD} {r : Txt} {un uk : Value} (hg : GX [b] W W1) (hj : JO W1 v W.heap.size W1.heap.size un uk) (hr : ∃ q, q ≤ s.length ∧ s.drop q = r ∧ RdB W1 b s q) :
    KidSt W b s v r un uk W1.heap.size (W1.alloc (.cells zeroC.toArray 46)) := by
  obtain ⟨q, h1, h2, h3⟩ := hr
  have hq : Q W1 (W1.alloc (.cells zeroC.toArray 46)) := (Q.refl W1).alloc _
  exact ⟨hg.reader hq, (JO.frame v _ _ un uk (fun b' e1 e2 e3 => Below.block hq b' e3) hj).widen (Nat.le_refl _) hq.size, ⟨q, h1, h2, h3.q hq⟩, heap_alloc_new W1 _⟩
theorem kidSt_two {W W2 : World} {b : Nat} {s : Txt} {v : JsonD} {r : Txt} {un uk : Value} (hb : b < W.heap.size) (hg : GX [b] (W.alloc (.cells zeroC.toArray 46)) W2) (hj : JO W2 v (W.alloc (.cells zeroC.toArray 46)).heap.size W2.heap.size un uk)
    (hr : ∃ q, q ≤ s.length ∧ s.drop q = r ∧ RdB W2 b s q) : KidSt W b s v r un uk W.heap.size W2 := by
  have hq : Q W (W.alloc (.cells zeroC.toArray 46)) := (Q.refl W).alloc _
  exact ⟨(GX.q hq).trans hg, hj.widen hq.size (Nat.le_refl _), hr, hg.heap (by simp; omega) (heap_alloc_new W _)⟩
theorem kid_fin {W W2 w3 W4 w0 : World} {jb b : Nat} {k : Int} {ns : List Txt} {acc : List JsonD} {vn vk un uk : Value} {cells : List Value} {v : JsonD} {s r : Txt} {N g cap : Nat} (hL : LstV W jb k ns acc vn vk cells) (hK : KidSt W b s v r un uk N W2) (hb : b < jb) (hgw : GX [b] w0 W) (h0 : w0.heap.size ≤ jb)
    (hgrow : W2.grownBy w3 vk.ownBlock) (hob : (Value.slice (some ⟨g, 0, none⟩) (acc.length + 1) cap).ownBlock = vk.ownBlock ∨ (Value.slice (some ⟨g, 0, none⟩) (acc.length + 1) cap).ownBlock = some W2.heap.size) (hgb : jb + 1 ≤ g) (hgn : acc.length + 1 ≤ cap) (hgm : cap ≤ maxLen)
    (hT : Two w3 W4 g jb 46 acc.length cap (cells ++ cellJ v un uk) ((jsonC k [] vn vk).set 3 (.slice (some ⟨g, 0, none⟩) (acc.length + 1) cap))) :
    LstB W4 jb k ns (acc ++ [v]) ∧ GX [b] w0 W4 ∧ GX [b] w0 W2 ∧ (∃ q, q ≤ s.length ∧ s.drop q = r ∧ RdB W4 b s q) ∧ ∀ k, k < jb → k < W2.heap.size → W4.heap[k]? = W2.heap[k]? := by
  have hL2 := hL.gx hK.gx hb
  have hkb : ∀ k, vk.ownBlock = some k → jb + 1 ≤ k ∧ k < W2.heap.size := fun k hk => ownsRow_base hL2.krow hk
  have hlt := hL2.lt
  have hgo : (Value.slice (some ⟨g, 0, none⟩) (acc.length + 1) cap).ownBlock = some g := rfl
  have g23 : GX vk.ownBlock.toList W2 w3 := GX.gbo hgrow
  have hsz3 := g23.size
  have hsz4 := hT.gx.size
  obtain ⟨cur, hrow, hcs, hct⟩ := hT.row
  have hlow : ∀ b', b' < W2.heap.size → b' < jb → W4.heap[b']? = W2.heap[b']? := fun b' h1 h2 => by
    rw [hT.gx.block b' (by omega) (by simp; omega), hgrow.block b' h1 (fun e => by have := (hkb b' e.symm).1; omega)]
  refine ⟨⟨vn, _, _, hL.kid (vk' := .slice (some ⟨g, 0, none⟩) (acc.length + 1) cap) hK.gx hb hK.jo (by omega) hT.blk ?_ ?_ ?_⟩, ?_, hgw.trans hK.gx, ?_, ?_⟩
  · refine ⟨?_, .inr ⟨g, cap, cur, rfl, hgb, hrow, hgn, hgm, hcs, hct⟩⟩
    rw [List.length_append, hL.krow.1]
    show _ + (jsonC _ _ un uk).length = _
    rw [jsonC_len]; omega
  · intro b' h1 h2 h3
    have hne : b' ≠ g := fun e => by
      subst e
      rcases hob with ho | ho
      · exact h3 (by rw [← ho]; rfl)
      · rw [hgo] at ho; injection ho with ho; omega
    rw [hT.gx.block b' (by omega) (by simp; omega), hgrow.block b' h1 (fun e => h3 e.symm)]
  · rcases hob with ho | ho
    · exact .inl ho
    · exact .inr ⟨_, Nat.le_refl _, ho⟩
  · refine ((hgw.trans hK.gx).sub g23 (fun k hk => ?_)).sub hT.gx (fun k hk => ?_)
    · have := (hkb k (by simpa using hk)).1; right; omega
    · simp at hk; right; omega
  · obtain ⟨q, q1, q2, q3⟩ := hK.rd
    exact ⟨q, q1, q2, (hlow b q3.lt hb).trans q3⟩
  · exact fun k h1 h2 => hlow k h2 h1
set_option maxRecDepth 100000 in
theorem item_any (d : Nat) (hd : d < 20) (wB : World) (b : Nat) (s : Txt) (IH : ValAll d wB b s) (hl : s.length ≤ 1000000000) (w0 : World) (jb rb ab : Nat) (hj0 : w0.heap.size ≤ jb) (acc : List JsonD) (q : Nat) (W : World) (hal : acc.length ≤ q) (hI : ItemI jb rb ab b d acc W)
    (hR : RdB W b s q) (hB : RB wB b W) (hG : GX [b] w0 W) (hq : q ≤ s.length) :
    Calls Tryz.prog 61 #[.pointer (some ⟨jb, 0, none⟩), .pointer (some ⟨rb, 0, none⟩), .pointer (some ⟨ab, 0, none⟩)] W (OneP b s w0 (fun v => ItemI jb rb ab b d (acc ++ [v])) (valR d (s.drop q))) := by
  obtain ⟨⟨vn, vk, cells, hL⟩, hBx, hbj, hrj, haj⟩ := hI
  obtain ⟨V, hV⟩ : ∃ V, valR d (s.drop q) = V := ⟨_, rfl⟩
  have hIH := IH q W hR hB hq
  rw [hV]
  obtain ⟨D, hD⟩ : ∃ D : Int, 20 - ((d + 1 : Nat) : Int) = D := ⟨_, rfl⟩
  have HL := Lib.hid hL
  have HBx := Lib.hid hBx
  have HG := Lib.hid hG
  have HR := Lib.hid hR
  have HRB := Lib.hid hB
  have HIH : Hid (∀ W', Q W W' → Calls Tryz.prog 45 #[.pointer (some ⟨b, 0, none⟩), .int .i64 (D + 1)] W' (ValP b s W' V)) := Lib.hid (fun W' h => by
    have := IH q W' (hR.q h) (hB.gx (GX.q h)) hq
    rw [hV] at this
    rw [show (D + 1) = 20 - (d : Int) by omega]
    exact this)
  have c3 : W.cell? ⟨jb, 3, none⟩ = some vk := by rw [cell_of_row _ _ _ _ _ _ hL.blk]; rfl
  have hS0 : SIt jb rb ab vk b D W := ⟨c3, hBx.r, by rw [← hD]; exact hBx.a⟩
  have HS0 := Lib.hid hS0
  have HQ := Lib.hid hq
  obtain ⟨A, cp, hvk, hn1, hn2, hn3⟩ := row_cells hL.krow hL.krow.1
  have hd0 : (0 : Int) ≤ D := by omega
  have hd1 : D ≤ 20 := by omega
  subst hvk
  have hn4 : acc.length ≤ 1000000000 := by omega
  have k3 : ∀ m : SWA (SIt jb rb ab (.slice A acc.length cp) b D), m.val.cell? ⟨jb, 3, none⟩ = some (.slice A acc.length cp) := fun m => m.property.1
  have kr : ∀ m : SWA (SIt jb rb ab (.slice A acc.length cp) b D), m.val.cell? ⟨rb, 0, none⟩ = some (.pointer (some ⟨b, 0, none⟩)) := fun m => m.property.2.1
  have ka : ∀ m : SWA (SIt jb rb ab (.slice A acc.length cp) b D), m.val.cell? ⟨ab, 0, none⟩ = some (.int .i64 D) := fun m => m.property.2.2
  clear hL hBx hG hR hB hIH hV IH c3 hS0 hn3 hq hD
  go_enter Tryz.func61, Tryz.ntmps61
  go_upto_region 0 with (fail)
  refine wp_app_S (SIt jb rb ab (.slice A acc.length cp) b D) [0, 1, 2, 3, 4, 6] 5 7 [8] [9, 11] 10 12 (by kernel_rfl) (by kernel_rfl) (fun c a d v w h => put_panic c a d v w h) HS0.out ?_
  simp only [List.map_cons, List.map_nil, Array.getD_eq_getD_getElem?, List.getElem?_toArray, List.getElem?_cons_succ, List.getElem?_cons_zero, Option.getD_some]
  haveI hne : Nonempty (SWA (SIt jb rb ab (.slice A acc.length cp) b D)) := ⟨⟨_, HS0.out⟩⟩
  (repeat (go_big_quiet_step (fail)))
  refine wpQuiet_nil ?_
  clear k3 kr ka hne
  have HWd : Hid (Q W W.drew) := Lib.hid (Q.refl W).drew
  have HWs : Hid (W.drew.heap.size = W.heap.size) := Lib.hid rfl
  obtain ⟨Wd, hWd⟩ : ∃ Wd, W.drew = Wd := ⟨_, rfl⟩
  rw [hWd] at HWd HWs
  rw [hWd]
  clear hWd
  have HBad : Hid (∀ c n w1 e, ValP b s Wd (.bad c n) e w1 → OneP b s w0 (fun v => ItemI jb rb ab b d (acc ++ [v])) (.bad c n) e w1) := Lib.hid (fun c n w1 e h => ⟨h.1, (HG.out.reader HWd.out).trans h.2⟩)
  have HBad2 : Hid (∀ c n w1 e, ValP b s (Wd.alloc (.cells zeroC.toArray 46)) (.bad c n) e w1 → OneP b s w0 (fun v => ItemI jb rb ab b d (acc ++ [v])) (.bad c n) e w1) := Lib.hid (fun c n w1 e h => ⟨h.1, (HG.out.reader (HWd.out.alloc _)).trans h.2⟩)
  have HSt : Hid (∀ W2, GX [b] W W2 → ∃ m : SWA (SIt jb rb ab (.slice A acc.length cp) b D), W2 = m.val) := Lib.hid (fun W2 hg => ⟨⟨W2, HS0.out.gx hg (by simp; omega) (by simp; have := HBx.out.br; omega) (by simp; have := HBx.out.ba; omega)⟩, rfl⟩)
  have HSt3 : Hid (∀ W2 w3 T, GX [b] W W2 → GX T W2 w3 → (∀ k ∈ T, jb + 1 ≤ k) → ∃ m : SWA (SIt jb rb ab (.slice A acc.length cp) b D), w3 = m.val) := Lib.hid (fun W2 w3 T hg h3 hT => ⟨⟨w3, (HS0.out.gx hg (by simp; omega) (by simp; have := HBx.out.br; omega) (by simp; have := HBx.out.ba; omega)).gx h3 (fun h => by have := hT _ h; omega) (fun h => by have := hT _ h; omega) (fun h => by have := hT _ h; omega)⟩, rfl⟩)
  refine ⟨?o1, ?o2⟩
  case' o1 =>
    unfold wpListK
    intro K hK
    go_wp2_with fail
    refine (HIH.out _ HWd.out).mono ?_
    intro e w1 hU
    have HU := Lib.hid hU
    clear hU HIH
    rcases V with ⟨v, r⟩ | ⟨c, n⟩
    rotate_left
    · have HX := Lib.hid (HBad.out c n w1 e HU.out)
      obtain ⟨⟨bf, rfl, hf⟩, hg⟩ := HU.out
      clear hf hg
      go_wp2_with fail
      exact ⟨rfl, HX.out⟩
    obtain ⟨⟨un, uk, rfl, hj⟩, hr, hg⟩ := HU.out
    rw [HWs.out] at hj
    have hgw := (GX.q HWd.out).trans hg
    have HK := Lib.hid (kidSt_one hgw hj hr)
    have HSw := Lib.hid (HSt.out w1 hgw)
    clear hj hr hg HU hgw
    go_wp2_with fail
    refine hK.out _ _ HSw.out ?_
    clear hK HSw
    unfold wpListK
    intro K hK
    go_wp2_with fail
    refine hK.out _ _ (HSt.out _ HK.out.gx) ?_
    clear hK
    obtain ⟨W2, hW2⟩ : ∃ W2, w1.alloc (.cells zeroC.toArray 46) = W2 := ⟨_, rfl⟩
    have hW2' : w1.alloc (.cells #[.int .i64 0, .string ⟨#[]⟩, .slice none 0 0, .slice none 0 0] 46) = W2 := hW2
    obtain ⟨N, hN⟩ : ∃ N, w1.heap.size = N := ⟨_, rfl⟩
    rw [hW2, hN] at HK
    rw [hW2', hN]
    clear hW2 hW2' hN HBad HBad2
    clear w1
  case' o2 =>
    unfold wpListK
    intro K hK
    go_wp2_with fail
    refine hK.out _ _ (HSt.out _ (GX.q (HWd.out.alloc _))) ?_
    clear hK
    unfold wpListK
    intro K hK
    go_wp2_with fail
    refine (HIH.out _ (HWd.out.alloc _)).mono ?_
    intro e W2 hU
    have HU := Lib.hid hU
    clear hU HIH
    rcases V with ⟨v, r⟩ | ⟨c, n⟩
    rotate_left
    · have HX := Lib.hid (HBad2.out c n W2 e HU.out)
      obtain ⟨⟨bf, rfl, hf⟩, hg⟩ := HU.out
      clear hf hg
      go_wp2_with fail
      exact ⟨rfl, HX.out⟩
    obtain ⟨⟨un, uk, rfl, hj⟩, hr, hg⟩ := HU.out
    have HK := Lib.hid (kidSt_two (W := Wd) (by rw [HWs.out]; exact HR.out.lt) hg hj hr)
    clear hj hr hg HU
    have HK : Hid (KidSt W b s v r un uk Wd.heap.size W2) := Lib.hid ⟨(GX.q HWd.out).trans HK.out.gx, by have := HK.out.jo; rw [HWs.out] at this; exact this, HK.out.rd, HK.out.z⟩
    go_wp2_with fail
    refine hK.out _ _ (HSt.out _ HK.out.gx) ?_
    clear hK
    obtain ⟨N, hN⟩ : ∃ N, Wd.heap.size = N := ⟨_, rfl⟩
    rw [hN] at HK
    rw [hN]
    clear hN HBad HBad2
  all_goals
    unfold wpListK wpAppE
    simp only [List.map_cons, List.map_nil, Array.getD_eq_getD_getElem?, List.getElem?_toArray, List.getElem?_cons_succ, List.getElem?_cons_zero, Option.getD_some]
    unfold wpListK
    intro K hK
    obtain ⟨ti, hi, hz0, hz1, hz2⟩ := info_parts info_json
    have HL2 := Lib.hid (HL.out.gx HK.out.gx hbj)
    have hlt2 := HL2.out.lt
    have ha1 : ∀ j u, zeroC[j]? = some u → W2.cell? ((⟨N, 0, none⟩ : Addr).add j) = some u := by
      intro j u hj
      rw [add_off, Nat.zero_add, cell_of_row _ _ _ _ _ _ HK.out.z]
      simpa using hj
    have ha2 : ∀ u ∈ zeroC, u.oneCell' = true := by intro u hu; simp [zeroC] at hu; rcases hu with rfl | rfl | rfl <;> rfl
    refine wpList_append_own_at (w := W2) rfl (.tmp 4) (.tmp 10) 44 rfl (jb + 1) 46 ti _ 4 72 Tryz.underlying44 hi hz0 hz1 hz2 rfl (by decide) (.slice A acc.length cp) acc.length cells rfl HL2.out.krow ⟨N, 0, none⟩ 1 1 zeroC rfl rfl ha1 ha2 (by unfold maxLen; omega) (by omega) (by omega) ?_
    clear ha1 ha2
    intro v' w3 hrow hgrow _ hob
    have hkb : ∀ k, (Value.slice A acc.length cp).ownBlock = some k → jb + 1 ≤ k ∧ k < W2.heap.size := fun k hk => ownsRow_base HL2.out.krow hk
    have HKB := Lib.hid hkb
    have hs3 := HSt3.out W2 w3 _ HK.out.gx (GX.gbo hgrow) (fun k hk => (hkb k (by simpa using hk)).1)
    have HGr := Lib.hid hgrow
    have HOb := Lib.hid hob
    have HJ3 : Hid (w3.heap[jb]? = some (.cells (jsonC 6 [] vn (.slice A acc.length cp)).toArray 46 (0, 0))) := Lib.hid (by
      rw [hgrow.block jb HL2.out.lt (fun e => by have := (hkb jb e.symm).1; omega)]; exact HL2.out.blk)
    clear hkb hgrow hob
    show K _ _
    refine hK.out _ _ hs3 ?_
    clear hK hs3
    unfold wpListK
    simp only [Act.put, List.setIfInBounds_toArray, List.set_cons_succ, List.set_cons_zero]
    obtain ⟨g, cap, cur, rfl, hgb, hgh, hgn, hgm, hgc, hgt⟩ : ∃ g cap cur, v' = .slice (some ⟨g, 0, none⟩) (acc.length + 1) cap ∧ jb + 1 ≤ g ∧ w3.heap[g]? = some (.cells cur 46 (0, 0)) ∧ acc.length + 1 ≤ cap ∧ cap ≤ maxLen ∧ cur.size = cap * 4 ∧ cur.toList.take ((acc.length + 1) * 4) = cells ++ zeroC := by
      rcases hrow.2 with ⟨_, h0⟩ | h
      · omega
      · exact h
    have HFin : Hid (∀ W4, Two w3 W4 g jb 46 acc.length cap (cells ++ cellJ v un uk) ((jsonC 6 [] vn (.slice A acc.length cp)).set 3 (.slice (some ⟨g, 0, none⟩) (acc.length + 1) cap)) → OneP b s w0 (fun v => ItemI jb rb ab b d (acc ++ [v])) (.ok v r) (.returned (.tuple #[])) W4) := Lib.hid (fun W4 hT => by
      obtain ⟨f1, f2, _, f4, f5⟩ := kid_fin (w0 := w0) HL.out HK.out hbj HG.out hj0 HGr.out HOb.out hgb hgn hgm hT
      have hbx := HBx.out.gx HK.out.gx
      exact ⟨rfl, f4, f2, f1, hbx.low hrj haj f5, hbj, hrj, haj⟩)
    have hcl : cells.length = acc.length * 4 := HL.out.krow.1
    have HA := Lib.hid (fun u => two_a hgh hgb hgn hgm hgc hgt hcl (jsonC_len v.kind v.text un uk) HJ3.out (by omega) 3 u)
    have HB2 := Lib.hid (fun u => two_b hgh hgb hgn hgm hgc hgt hcl (jsonC_len v.kind v.text un uk) HJ3.out (by omega) 3 u)
    have HTh : Hid (w3.there g (acc.length * 4) (cellJ v un uk).toArray.size) := Lib.hid (there_row hgh (by show _ + (jsonC _ _ un uk).toArray.size ≤ _; simp [jsonC]; omega))
    have HOne := Lib.hid (cellJ_one (j := v) (jo_form HK.out.jo).1 (jo_form HK.out.jo).2)
    have HIn : Hid ((Tryz.prog.info? 46).map (·.size) = some (cellJ v un uk).toArray.size) := Lib.hid (by rw [hi]; show some ti.size = _; rw [hz1]; rfl)
    have hd2 : decide (acc.length < acc.length + 1) = true := by simp
    have cjb : w3.cell? ⟨jb, 3, none⟩ = some (.slice A acc.length cp) := by rw [cell_of_row _ _ _ _ _ _ HJ3.out]; rfl
    have fjb := frozen_of_row w3 jb 3 _ _ HJ3.out
    have HNe : Hid (g ≠ jb) := Lib.hid (by omega)
    have HGh := Lib.hid hgh
    clear hgh hgt hgc hcl hrow hi hz0 hz1 hz2
    (repeat (go_big_quiet_step (fail)))
    refine wpQuiet_nil ?_
    clear hd2
    have HJ4 : Hid ((w3.setCells g (acc.length * 4) (cellJ v un uk)).heap[jb]? = some (.cells (jsonC 6 [] vn (.slice A acc.length cp)).toArray 46 (0, 0))) := Lib.hid (by
      rw [(setCells_gb g (cellJ v un uk) (acc.length * 4) w3).block jb (lt_of_heap HJ3.out) (by simpa using Ne.symm HNe.out)]; exact HJ3.out)
    have HTh2 : Hid ((w3.setCell ⟨jb, 3, none⟩ (.slice (some ⟨g, 0, none⟩) (acc.length + 1) cap)).there g (acc.length * 4) (cellJ v un uk).toArray.size) := Lib.hid (fun j hj => by
      have := HTh.out j hj
      refine ⟨?_, ?_⟩
      · have h1 := this.1
        unfold World.cell? at h1 ⊢
        rw [heap_setCell_other w3 ⟨jb, 3, none⟩ g _ (by simpa using HNe.out)]; exact h1
      · rw [← this.2]; unfold World.frozen?; rw [heap_setCell_other _ ⟨jb, 3, none⟩ g _ (by simpa using HNe.out)])
    refine ⟨?_, ?_⟩
    · unfold wpListK
      intro K hK
      refine wpList_store_mid rfl 46 (.tmp 12) (.tmp 8) rfl g (acc.length * 4) (cellJ v un uk).toArray rfl rfl HTh.out HIn.out HOne.out ?_
      show K _ _
      refine hK.out _ _ trivial ?_
      clear hK cjb fjb
      unfold wpListK
      intro K hK
      simp only [Act.put]
      have cjb : (w3.setCells g (acc.length * 4) (cellJ v un uk)).cell? ⟨jb, 3, none⟩ = some (.slice A acc.length cp) := by rw [cell_of_row _ _ _ _ _ _ HJ4.out]; rfl
      have fjb := frozen_of_row _ jb 3 _ _ HJ4.out
      go_wp2_with fail
      refine hK.out _ _ trivial ?_
      clear hK
      unfold wpListK
      go_end0
      exact HFin.out _ (HA.out _)
    · unfold wpListK
      intro K hK
      go_wp2_with fail
      refine hK.out _ _ trivial ?_
      clear hK
      unfold wpListK
      intro K hK
      refine wpList_store_mid rfl 46 (.tmp 12) (.tmp 8) rfl g (acc.length * 4) (cellJ v un uk).toArray rfl rfl HTh2.out HIn.out HOne.out ?_
      show K _ _
      refine hK.out _ _ trivial ?_
      clear hK
      unfold wpListK
      go_end0
      exact HFin.out _ (HB2.out _)
end Go.Proofs.YtlhhiiemojhjdaaGreatDoor
