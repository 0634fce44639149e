/-
  A region that draws its order and holds calls, of some of which the result is known, so that guards may ask for it: the law of XCalls, with results that are known.
-/
import Derived.Test.YtcickafaomfbmaaGreatDoorZSBksBt
namespace Go
open Go.RowKit

/-- What is known of results. -/
def Knows (kv : Nat → Option Value) (ν : Nat → Value) : Prop := ∀ c u, kv c = some u → ν c = u
theorem Knows.upd {kv : Nat → Option Value} {ν : Nat → Value} (h : Knows kv ν) {i : Nat} {v : Value} (hv : ∀ u, kv i = some u → v = u) : Knows kv (updU ν i v) := by
  intro c u hc
  unfold updU
  by_cases hci : c = i
  · subst hci; rw [if_pos rfl]; exact hv u hc
  · rw [if_neg hci]; exact h c u hc

/-- The temporaries that such an operation reads: a part of a call's result, too. -/
def Oper.opTmpsK (o : Oper) : Option (List Nat) :=
  match o.op with
  | .extract x _ => some x.tmpOf
  | .move x => some x.tmpOf
  | .nilCheck x => some x.tmpOf
  | _ => o.opTmps
theorem gives_congrK {P : Program} {a b : Act} {o : Oper} {ts : List Nat} {W : World} {R : Value → World → Prop} (ho : o.opTmpsK = some ts) (h : ∀ d ∈ ts, a.tmps[d]? = b.tmps[d]?) (hg : o.gives P b.eval W R) : o.gives P a.eval W R := by
  unfold Oper.opTmpsK at ho
  split at ho
  · rename_i x i hop
    cases ho
    have e1 : a.eval x = b.eval x := eval_tmp_eq h
    have e : execOp a.eval o = execOp b.eval o := by unfold execOp; simp only [hop, e1]
    unfold Oper.gives at hg ⊢
    rw [e]; exact hg
  · rename_i x hop
    cases ho
    have e1 : a.eval x = b.eval x := eval_tmp_eq h
    have e : execOp a.eval o = execOp b.eval o := by unfold execOp; simp only [hop, e1]
    unfold Oper.gives at hg ⊢
    rw [e]; exact hg
  · rename_i x hop
    cases ho
    have e1 : a.eval x = b.eval x := eval_tmp_eq h
    have e : execOp a.eval o = execOp b.eval o := by unfold execOp; simp only [hop, e1]
    unfold Oper.gives at hg ⊢
    rw [e]; exact hg
  · exact gives_congr ho h hg
def Region.fedK (md : Region.Mode) (l : List Oper) (U : Nat → Bool) : Bool := (List.range l.length).all fun i => !U i || match l[i]? with
  | some o => match o.opTmpsK with
    | some ts => (ts.all fun d => (List.range l.length).all fun j => decide ((l[j]?).bind (·.dst) ≠ some d) || o.after.any fun e => Region.binds md e && e.on == j)
    | none => false
  | none => true
/-- Each operation waits for earlier ones alone. -/
def Region.backK (md : Region.Mode) (l : List Oper) : Bool := (List.range l.length).all fun i => match l[i]? with | some o => o.after.all fun e => !Region.binds md e || decide (e.on < i) | none => true
theorem backK_spec {md : Region.Mode} {l : List Oper} (h : Region.backK md l = true) {i : Nat} {o : Oper} (hi : l[i]? = some o) : ∀ e ∈ o.after, Region.binds md e = true → e.on < i := by
  have h1 := List.all_eq_true.1 h i (List.mem_range.2 (List.getElem?_eq_some_iff.1 hi).1)
  simp only [hi] at h1
  intro e he hb
  have := Array.all_eq_true'.1 h1 e he
  simpa [hb] using this
section
variable {P : Program} {md : Region.Mode} {l : List Oper} {n : Nat} {U : Nat → Bool} {w : World} {Q : Exit → Act → World → Prop} {g : Nat} {A : (Nat → Value) → Act} {Φ : Nat → Value → World → Prop} {kv : Nat → Option Value}

theorem HeadK.any (hkv : ∀ c v W u, Φ c v W → kv c = some u → v = u) (hD : Region.dstsB l = true) (hback : Region.backK md l = true) (hfed : Region.fedK md l U = true) (hgu : ∀ ν, Knows kv ν → ∀ i oi, l[i]? = some oi → U i = true → Region.wanted oi (yielded l.toArray (A ν).tmps) = true ∧ ∀ gi pol, oi.guard = some (gi, pol) → ∃ e ∈ oi.after, Region.binds md e = true ∧ e.on = gi) (hp : ∀ i o, l[i]? = some o → i < n → U i = false → o.plainB = true) (hg : g = l.length - n) (hn : n ≤ l.length)
    (hmono : ∀ c v W W', Φ c v W → W.Exts W' → Φ c v W')
    (hcall : ∀ c oc, l[c]? = some oc → U c = true → ∀ ν, Knows kv ν → ∀ W, w.Exts W → (∀ c', U c' = true → (∃ e ∈ oc.after, Region.binds md e = true ∧ e.on = c') → Φ c' (ν c') W) → oc.gives P (A ν).eval W fun v W' => W.Exts W' ∧ Φ c v W')
    (htail : ∀ ν, Knows kv ν → ∀ W, w.Exts W → (∀ c, c < n → U c = true → Φ c (ν c) W) → wpList P l.toArray Q (l.drop n) (A ν) W) :
    ∀ (f : Nat) (listed : Array Bool) (a : Act) (W : World) (ν : Nat → Value), Knows kv ν → listed.size = l.length → w.Exts W → (∀ c, c < l.length → U c = true → listed.getD c true = true → Φ c (ν c) W) →
      (∀ ν', Knows kv ν' → (∀ c, c < l.length → U c = true → listed.getD c true = true → ν' c = ν c) → HeadC P md l U n w A g ν' f listed a) → wpAny P md l.toArray Q (f + g) listed a W
  | 0, listed, a, W, ν, hkn, hsz, hE, hK, h => by
    obtain ⟨h1, rfl⟩ := h ν hkn (fun _ _ _ _ => rfl)
    rw [seqB_modU] at h1
    have hall : ∀ c, c < n → listed.getD c true = true := by
      intro c
      induction c using Nat.strongRecOn with
      | _ c ih =>
        intro hc
        cases hl : listed.getD c true with
        | true => rfl
        | false =>
          obtain ⟨o, ho⟩ : ∃ o, l[c]? = some o := ⟨_, List.getElem?_eq_getElem (by omega)⟩
          have := seqB_ready h1 c (mem_ready.2 ⟨hl, o, by simpa using ho, fun e he hb => by
            have hlt := backK_spec hback ho e he hb
            have := ih e.on hlt (by omega)
            rw [Array.getD_eq_getD_getElem?] at this ⊢
            rw [Array.getElem?_eq_getElem (by rw [hsz]; omega)] at this ⊢
            exact this⟩)
          omega
    have h2 := wpAny_of_seq (md := md) (Q' := Q) (l.drop n) n listed (A ν) W (fun j => by simp [List.getElem?_drop]) (by rw [List.length_drop, ← hg]; exact h1) (htail ν hkn W hE fun c hc hU => hK c (by omega) hU (hall c hc))
    rw [List.length_drop, ← hg] at h2
    rw [Nat.zero_add]; exact h2
  | f + 1, listed, a, W, ν, hkn, hsz, hE, hK, h => by
    rw [Nat.add_right_comm]
    have h0 := h ν hkn (fun _ _ _ _ => rfl)
    have hne := h0.1
    rw [ready_modU] at hne
    refine ⟨fun h0 => absurd h0 hne, fun i hi => ?_⟩
    obtain ⟨hun, oi, hoi, hwait⟩ := mem_ready.1 hi
    have hoi' : l[i]? = some oi := by simpa using hoi
    have hil : i < l.length := (List.getElem?_eq_some_iff.1 hoi').1
    have hin : i < listed.size := by rw [hsz]; exact hil
    have hW : ∃ X : Ext w, W = w.ext X := hE
    have hlt : i < n := (h0.2 i (by rw [ready_modU]; exact hi)).1
    cases hU : U i with
    | false =>
      have hset : ∀ ν', (modU l U ν').toArray[i]? = some oi := fun ν' => by rw [List.getElem?_toArray, modU_get, hoi', Option.map_some, hU]; rfl
      have each : ∀ ν', Knows kv ν' → (∀ c, c < l.length → U c = true → listed.getD c true = true → ν' c = ν c) → ∃ v, YieldsIn P (modU l U ν').toArray (fun W => ∃ X : Ext w, W = w.ext X) oi v a ∧ HeadC P md l U n w A g ν' f (listed.setIfInBounds i true) (a.put oi.dst v) := fun ν' hkn' hν' =>
        yieldsIn_of_qOp (hset ν') ((h ν' hkn' hν').2 i (by rw [ready_modU]; exact hi)).2
      have hpl := hp i oi hoi' hlt hU
      obtain ⟨v, hy, hv⟩ := each ν hkn (fun _ _ _ _ => rfl)
      refine wpOp_of_yields hoi (yielded_modU ν _) hpl hW hy ?_
      refine HeadK.any hkv hD hback hfed hgu hp hg hn hmono hcall htail f _ _ W ν hkn (by simpa using hsz) hE (fun c hc hUc hl => ?_) (fun ν' hkn' hν' => ?_)
      · by_cases hci : c = i
        · subst hci; rw [hU] at hUc; cases hUc
        · rw [getD_set_ne true (Ne.symm hci)] at hl; exact hK c hc hUc hl
      · have hag : ∀ c, c < l.length → U c = true → listed.getD c true = true → ν' c = ν c := fun c hc hUc hl => by
          by_cases hci : c = i
          · subst hci; rw [hU] at hUc; cases hUc
          · exact hν' c hc hUc (by rw [getD_set_ne true (Ne.symm hci)]; exact hl)
        obtain ⟨v', hy', hv'⟩ := each ν' hkn' hag
        have hvv : v = v' := by
          unfold YieldsIn at hy hy'
          rw [yielded_modU] at hy hy'
          rcases hy with ⟨hw1, hq1⟩ | ⟨hw1, e1⟩ <;> rcases hy' with ⟨hw2, hq2⟩ | ⟨hw2, e2⟩
          · exact quietUpon_same (fun _ _ _ => Oper.not_enter hpl) (hq1 W hW) (hq2 W hW)
          · rw [hw1] at hw2; cases hw2
          · rw [hw1] at hw2; cases hw2
          · rw [e1, e2]
        rw [hvv]; exact hv'
    | true =>
      have hset : ∀ ν', (modU l U ν').toArray[i]? = some (cOp oi (ν' i)) := fun ν' => by rw [List.getElem?_toArray, modU_get, hoi', Option.map_some, hU]; rfl
      have hfd := List.all_eq_true.1 hfed i (List.mem_range.2 hil)
      simp only [hU, hoi', Bool.not_true, Bool.false_or] at hfd
      split at hfd
      case h_2 => cases hfd
      rename_i ts hop
      simp only [List.all_eq_true, List.mem_range] at hfd
      obtain ⟨hwn, hgd⟩ := hgu ν hkn i oi hoi' hU
      have hwa : Region.wanted oi (yielded l.toArray a.tmps) = true := by
        cases hgc : oi.guard with
        | none => unfold Region.wanted; rw [hgc]
        | some gp =>
          obtain ⟨gi, pol⟩ := gp
          obtain ⟨e2, he2, hb2, hon2⟩ := hgd gi pol hgc
          have hgl : gi < l.length := by have := backK_spec hback hoi' e2 he2 hb2; omega
          have hlist := hwait e2 he2 hb2
          rw [hon2, Array.getD_eq_getD_getElem?, Array.getElem?_eq_getElem (by rw [hsz]; exact hgl)] at hlist
          have hsame : yielded l.toArray a.tmps gi = yielded l.toArray (A ν).tmps gi := by
            unfold yielded
            obtain ⟨og, hog⟩ : ∃ og, l[gi]? = some og := ⟨_, List.getElem?_eq_getElem hgl⟩
            rw [List.getElem?_toArray, hog, Option.bind_some]
            cases hdg : og.dst with
            | none => rfl
            | some d =>
              rw [Option.bind_some, Option.bind_some]
              have : a.tmps[d]? = (A ν).tmps[d]? := by
                refine HeadAny.val (A := A ν) (fun _ _ h => h.2) (f + 1) _ _ d (fun j oj hj hl e => ?_) h0
                rw [List.getElem?_toArray, modU_get] at hj
                cases hlj : l[j]? with
                | none => rw [hlj] at hj; cases hj
                | some o' =>
                  rw [hlj] at hj
                  simp only [Option.map_some, Option.some.injEq] at hj
                  have e' : o'.dst = some d := by
                    rw [← hj] at e
                    split at e
                    · exact e
                    · exact e
                  obtain rfl := dstsB_spec hD hog hlj hdg e'
                  rw [Array.getD_eq_getD_getElem?, Array.getElem?_eq_getElem (by rw [hsz]; exact hgl)] at hl
                  simp only [Option.getD_some] at hlist hl
                  rw [hl] at hlist
                  cases hlist
              rw [this]
          unfold Region.wanted at hwn ⊢
          rw [hgc] at hwn ⊢
          dsimp only at hwn ⊢
          rw [hsame]
          exact hwn
      have hgv := hcall i oi hoi' hU ν hkn W hE (fun c' hUc ⟨e, he, hb, hon⟩ => by
        have hlist := hwait e he hb
        rw [hon] at hlist
        have hc' : c' < l.length := by have := backK_spec hback hoi' e he hb; omega
        refine hK c' hc' hUc ?_
        rw [Array.getD_eq_getD_getElem?] at hlist ⊢
        rw [Array.getElem?_eq_getElem (by rw [hsz]; exact hc')] at hlist ⊢
        exact hlist)
      have hops : ∀ d ∈ ts, a.tmps[d]? = (A ν).tmps[d]? := fun d hd => by
        refine HeadAny.val (A := A ν) (fun _ _ h => h.2) (f + 1) _ _ d (fun j oj hj hl e => ?_) h0
        rw [List.getElem?_toArray, modU_get] at hj
        cases hlj : l[j]? with
        | none => rw [hlj] at hj; cases hj
        | some o' =>
          rw [hlj] at hj
          simp only [Option.map_some, Option.some.injEq] at hj
          have e' : o'.dst = some d := by
            rw [← hj] at e
            split at e
            · exact e
            · exact e
          have hjl : j < l.length := (List.getElem?_eq_some_iff.1 hlj).1
          have h3 := hfd d hd j hjl
          rw [hlj] at h3
          simp only [Option.bind_some, e', ne_eq, not_true_eq_false, decide_false, Bool.false_or, Array.any_eq_true'] at h3
          obtain ⟨e2, he2, h4⟩ := h3
          simp only [Bool.and_eq_true, beq_iff_eq] at h4
          have hlist := hwait e2 he2 h4.1
          rw [h4.2] at hlist
          rw [Array.getD_eq_getD_getElem?, Array.getElem?_eq_getElem (by rw [hsz]; exact hjl)] at hlist hl
          simp only [Option.getD_some] at hlist hl
          rw [hl] at hlist
          cases hlist
      have hgv2 := gives_congrK hop hops hgv
      have next : ∀ v W', W.Exts W' → Φ i v W' → wpAny P md l.toArray Q (f + g) (listed.setIfInBounds i true) (a.put oi.dst v) W' := by
        intro v W' hEW hΦ
        refine HeadK.any hkv hD hback hfed hgu hp hg hn hmono hcall htail f _ _ W' (updU ν i v) (hkn.upd fun u hc => hkv _ _ _ _ hΦ hc) (by simpa using hsz) (hE.trans hEW) (fun c' hc' hUc hl => ?_) (fun ν' hkn' hν' => ?_)
        · unfold updU
          by_cases hci : c' = i
          · rw [if_pos hci, hci]; exact hΦ
          · rw [if_neg hci]
            rw [getD_set_ne true (Ne.symm hci)] at hl
            exact hmono _ _ _ _ (hK c' hc' hUc hl) hEW
        · have hag : ∀ c, c < l.length → U c = true → listed.getD c true = true → ν' c = ν c := fun c hc hUc hl => by
            have hci : c ≠ i := fun e => by rw [e, hun] at hl; cases hl
            have h5 := hν' c hc hUc (by rw [getD_set_ne true (Ne.symm hci)]; exact hl)
            rw [h5]; unfold updU; rw [if_neg hci]
          have hvi : ν' i = v := by
            have h5 := hν' i hil hU (getD_set_same true hin)
            rw [h5]; unfold updU; rw [if_pos rfl]
          obtain ⟨u, hy, hu⟩ := yieldsIn_of_qOp (hset ν') ((h ν' hkn' hag).2 i (by rw [ready_modU]; exact hi)).2
          have huv : u = v := by
            unfold YieldsIn at hy
            rcases hy with ⟨_, hq⟩ | ⟨hw, _⟩
            · have h6 := hq W hW
              simp only [Oper.quietAt, cOp, execOp, Sem.run_pure, Oper.quietUpon] at h6
              rw [← h6.2]; exact hvi
            · rw [yielded_modU] at hw
              rw [show Region.wanted (cOp oi (ν' i)) (yielded l.toArray a.tmps) = Region.wanted oi (yielded l.toArray a.tmps) from rfl, hwa] at hw
              cases hw
          rw [huv] at hu
          exact hu
      unfold wpOp
      simp only [hoi]
      rw [if_pos hwa]
      refine .inl ?_
      unfold Oper.wp
      rcases hgv2 with ⟨fn, args, hrun, hc⟩ | ⟨v, W', hrun, hEW, hΦ⟩
      · rw [hrun, Oper.upon_enter]
        refine hc.mono ?_
        rintro e W' ⟨v, rfl, hEW, hΦ⟩
        exact next v W' hEW hΦ
      · rw [hrun, Oper.upon_value]
        exact next v W' hEW hΦ
end

theorem wpAny_callsK {P : Program} {l : List Oper} {w : World} {Q : Exit → Act → World → Prop} {a : Act} (n : Nat) (U : Nat → Bool) (A : (Nat → Value) → Act) (Φ : Nat → Value → World → Prop) (kv : Nat → Option Value) (hkv : ∀ c v W u, Φ c v W → kv c = some u → v = u)
    (hB : ∀ ν, Region.lexTailB .any (modU l U ν).toArray n = true) (hD : Region.dstsB l = true) (hback : Region.backK .any l = true) (hfed : Region.fedK .any l U = true) (hgu : ∀ ν, Knows kv ν → ∀ i oi, l[i]? = some oi → U i = true → Region.wanted oi (yielded l.toArray (A ν).tmps) = true ∧ ∀ gi pol, oi.guard = some (gi, pol) → ∃ e ∈ oi.after, Region.binds .any e = true ∧ e.on = gi) (hp : ∀ i o, l[i]? = some o → i < n → U i = false → o.plainB = true)
    (hmono : ∀ c v W W', Φ c v W → W.Exts W' → Φ c v W')
    (hwalk : ∀ ν, Knows kv ν → ∀ (L : Act → Prop), L (A ν) → wpQuiet P (modU l U ν).toArray (fun W => ∃ X : Ext w, W = w.ext X) L ((modU l U ν).take n) a)
    (hcall : ∀ c oc, l[c]? = some oc → U c = true → ∀ ν, Knows kv ν → ∀ W, w.Exts W → (∀ c', U c' = true → (∃ e ∈ oc.after, Region.binds .any e = true ∧ e.on = c') → Φ c' (ν c') W) → oc.gives P (A ν).eval W fun v W' => W.Exts W' ∧ Φ c v W')
    (htail : ∀ ν, Knows kv ν → ∀ W, w.Exts W → (∀ c, c < n → U c = true → Φ c (ν c) W) → wpList P l.toArray Q (l.drop n) (A ν) W) :
    wpAny P .any l.toArray Q l.toArray.size (Array.replicate l.toArray.size false) a { w with drawn := w.drawn + 1 } := by
  have hB0 := hB (fun _ => undef)
  simp only [Region.lexTailB, Bool.and_eq_true, decide_eq_true_eq] at hB0
  have hn' : n < l.length := by simpa [modU_len] using hB0.1.1.1.2
  have key := HeadK.any (md := .any) (P := P) (w := w) (A := A) (Q := Q) (g := l.length - n) (n := n) hkv hD hback hfed hgu hp rfl (by omega) hmono hcall htail n (Array.replicate l.toArray.size false) a { w with drawn := w.drawn + 1 } (fun c => (kv c).getD undef) (fun c u (hc : kv c = some u) => by dsimp only; rw [hc]; rfl) (by simp) ⟨⟨w.drew, (Below.refl _ _).drew⟩, rfl⟩
    (fun c hc _ hl => by rw [getD_replicate_lt (by simpa using hc)] at hl; cases hl) (fun ν hkn _ => ?_)
  · rw [show n + (l.length - n) = l.toArray.size by simp; omega] at key
    exact key
  · have hBp := hB ν
    simp only [Region.lexTailB, Bool.and_eq_true, decide_eq_true_eq] at hBp
    obtain ⟨⟨⟨⟨hsel, hn⟩, hs⟩, hc⟩, hlex⟩ := hBp
    have htl : ((modU l U ν).take n).length = n := by rw [List.length_take, modU_len]; omega
    have hgl : (modU l U ν).toArray.size - n = l.length - n := by simp [modU_len]
    have inv0 : HeadInv .any (modU l U ν).toArray n (Array.replicate l.toArray.size false) :=
      ⟨by simp [modU_len], fun j oj _ hl => (by rw [getD_replicate_false] at hl; cases hl), fun t _ ht => getD_in (by simpa [modU_len] using ht) (getD_replicate_false _ _)⟩
    have H := HeadAny.lex (md := .any) (g := l.length - n) hsel hs hc hn ((modU l U ν).take n) 0 _ a (fun j hj => by rw [htl] at hj; simp [hj]) (by simpa using htl) inv0 (by rw [htl]; rw [hgl] at hlex; simpa [modU_len] using hlex) (hwalk ν hkn (fun a' => a' = A ν) rfl)
    rw [htl] at H
    exact H

/-- The walk's list, laid out as it is walked: operations from place k on, n of them. -/
def modTo (U : Nat → Bool) (ν : Nat → Value) : Nat → Nat → List Oper → List Oper
  | _, 0, _ => []
  | _, _ + 1, [] => []
  | k, n + 1, o :: l => (if U k then cOp o (ν k) else o) :: modTo U ν (k + 1) n l
theorem modTo_eq (U : Nat → Bool) (ν : Nat → Value) : ∀ (n k : Nat) (l : List Oper), (l.mapIdx fun i o => if U (i + k) then cOp o (ν (i + k)) else o).take n = modTo U ν k n l
  | 0, _, _ => by simp [modTo]
  | _ + 1, _, [] => by simp [modTo]
  | n + 1, k, o :: l => by
    rw [List.mapIdx_cons, List.take_succ_cons, modTo, ← modTo_eq U ν n (k + 1) l, Nat.zero_add]
    congr 2
    refine congrArg (fun f => List.mapIdx f l) ?_
    funext i o
    rw [show i + 1 + k = i + (k + 1) by omega]
theorem wpQuiet_ops {P : Program} {ops ops' : Array Oper} {C : World → Prop} {Q : Act → Prop} (hy : ∀ tmps, yielded ops tmps = yielded ops' tmps) : ∀ (l : List Oper) (a : Act), wpQuiet P ops C Q l a → wpQuiet P ops' C Q l a
  | [], _, h => h
  | o :: l, a, h => by
    unfold wpQuiet at h ⊢
    rw [← hy]
    split at h
    · rename_i hw
      rw [if_pos hw]
      obtain ⟨v, h1, h2⟩ := h
      exact ⟨v, h1, wpQuiet_ops hy l _ h2⟩
    · rename_i hw
      rw [if_neg hw]
      exact wpQuiet_ops hy l _ h
section
variable {P : Program} {ops : Array Oper} {C : World → Prop} {Q : Act → Prop} {a : Act} {U : Nat → Bool} {ν : Nat → Value} {k n : Nat} {l : List Oper}
theorem modTo_free {o : Oper} (hU : U k = false) (h : wpQuiet P ops C Q (o :: modTo U ν (k + 1) n l) a) : wpQuiet P ops C Q (modTo U ν k (n + 1) (o :: l)) a := by
  unfold modTo; rw [hU]; exact h
theorem modTo_call {d : Option Nat} {p : Op} {ty : TypeId} {pos : String} {af : Array Edge} {gd : Option (Nat × Bool)} {v : Value} (hU : U k = true) (hv : ν k = v) (h : wpQuiet P ops C Q (⟨d, .move (.const v), ty, pos, af, gd⟩ :: modTo U ν (k + 1) n l) a) :
    wpQuiet P ops C Q (modTo U ν k (n + 1) (⟨d, p, ty, pos, af, gd⟩ :: l)) a := by
  subst hv; unfold modTo; rw [hU]; exact h
theorem modTo_end (h : Q a) : wpQuiet P ops C Q (modTo U ν k 0 l) a := h
end
theorem wp_region_callsK {P : Program} {id : Nat} {Q : Exit → Act → World → Prop} {a : Act} {w : World} {l : List Oper} (n : Nat) (U : Nat → Bool) (Φ : Nat → Value → World → Prop) (kv : Nat → Option Value) (hm : P.follows .mixedOrders = true)
    (hB : ∀ ν, Region.lexTailB .any (modU l U ν).toArray n = true) (hD : Region.dstsB l = true) (hback : Region.backK .any l = true) (hfed : Region.fedK .any l U = true) (hgf : Region.guardFedB .any l U = true) (hp : ((List.range n).all fun i => U i || match l[i]? with | some o => o.plainB | none => true) = true)
    (hmono : ∀ c v W W', Φ c v W → W.Exts W' → Φ c v W') (hkv : ∀ c v W u, Φ c v W → kv c = some u → v = u)
    (h : ∃ A : (Nat → Value) → Act, (∀ ν, Knows kv ν → ∀ i oi, l[i]? = some oi → U i = true → Region.wanted oi (yielded l.toArray (A ν).tmps) = true) ∧ (∀ ν, Knows kv ν → ∀ (L : Act → Prop), L (A ν) → wpQuiet P l.toArray (fun W => ∃ X : Ext w, W = w.ext X) L (modTo U ν 0 n l) a) ∧
      (∀ c oc, l[c]? = some oc → U c = true → ∀ ν, Knows kv ν → ∀ W, w.Exts W → (∀ c', U c' = true → (∃ e ∈ oc.after, Region.binds .any e = true ∧ e.on = c') → Φ c' (ν c') W) → oc.gives P (A ν).eval W fun v W' => W.Exts W' ∧ Φ c v W') ∧
      (∀ ν, Knows kv ν → ∀ W, w.Exts W → (∀ c, c < n → U c = true → Φ c (ν c) W) → wpList P l.toArray Q (l.drop n) (A ν) W)) : (Code.region id l.toArray true).wp P Q a w :=
  let ⟨A, hwant, hwalk, hcall, htail⟩ := h
  wp_region_any hm (wpAny_callsK n U A Φ kv hkv hB hD hback hfed (fun ν hkn i oi hi hU => ⟨hwant ν hkn i oi hi hU, guardFedB_spec hgf hi hU⟩) (fun i o hi hin hU => by
    have h1 := List.all_eq_true.1 hp i (List.mem_range.2 hin)
    simpa [hU, hi] using h1) hmono (fun ν hkn L hL => by
      have h1 := hwalk ν hkn L hL
      rw [← modTo_eq] at h1
      exact wpQuiet_ops (fun tmps => (yielded_modU ν tmps).symm) _ _ h1) hcall htail)
end Go
