/-
  A region that draws its order, and holds calls, blocks that are made, and one step that writes (an append) among operations that read: the law of XCalls with a condition of the user's own, which may lean on what has run, in the place of 'worlds that extend a world'.
-/
import Derived.Test.YtfjkiemjmnnbkaaDoorBt
import Derived.Test.YtfjkiemjmnnbkaaDoorBt
namespace Go
open Go.RowKit

theorem gives_eval {a b : Act} {o : Oper} {ts : List Nat} (ho : o.opTmps = some ts) (h : ∀ d ∈ ts, a.tmps[d]? = b.tmps[d]?) : execOp a.eval o = execOp b.eval o := by
  unfold Oper.opTmps at ho
  split at ho
  · rename_i c hop
    cases ho
    have e1 : c.args.map a.eval = c.args.map b.eval := by
      apply Array.map_congr_left
      intro x hx
      exact eval_tmp_eq fun d hd => h d (List.mem_append_left _ (List.mem_flatMap.2 ⟨x, by simpa using hx, hd⟩))
    have e2 : resolve a.eval c o.type = resolve b.eval c o.type := by
      unfold resolve
      rw [e1]
      cases hc : c.callee with
      | builtin b => rfl
      | invoke r name =>
        have : a.eval r = b.eval r := eval_tmp_eq fun d hd => h d (List.mem_append_right _ (by rw [hc]; exact hd))
        simp [this]
      | value f =>
        have : a.eval f = b.eval f := eval_tmp_eq fun d hd => h d (List.mem_append_right _ (by rw [hc]; exact hd))
        simp [this]
    unfold execOp
    simp only [hop, e2]
  · rename_i t n parts hop
    cases ho
    have e1 : (parts.map fun x => (x.1, a.eval x.2)) = parts.map fun x => (x.1, b.eval x.2) := by
      apply Array.map_congr_left
      intro x hx
      have : a.eval x.2 = b.eval x.2 := eval_tmp_eq fun d hd => h d (List.mem_flatMap.2 ⟨x, by simpa using hx, hd⟩)
      rw [this]
    unfold execOp
    simp only [hop, e1]
  · rename_i t parts hop
    cases ho
    have e1 : (parts.map fun x => (x.1, a.eval x.2)) = parts.map fun x => (x.1, b.eval x.2) := by
      apply Array.map_congr_left
      intro x hx
      have : a.eval x.2 = b.eval x.2 := eval_tmp_eq fun d hd => h d (List.mem_flatMap.2 ⟨x, by simpa using hx, hd⟩)
      rw [this]
    unfold execOp
    simp only [hop, e1]
  · rename_i t x hop
    cases ho
    have e1 : a.eval x = b.eval x := eval_tmp_eq h
    unfold execOp
    simp only [hop, e1]
  · rename_i t hop
    unfold execOp
    simp only [hop]
  · cases ho
/-- An operation, as it stands: what comes of it; a store, too. -/
def Oper.givesI (P : Program) (o : Oper) (ρ : Operand → Value) (w : World) (R : Value → World → Prop) : Prop := o.gives P ρ w R ∨ ∃ w', (execOp ρ o).run P w = .ok .skip w' ∧ R undef w'
def Oper.opTmpsI (o : Oper) : Option (List Nat) :=
  match o.op with
  | .store _ x y => some (x.tmpOf ++ y.tmpOf)
  | .binOp _ _ x y _ => some (x.tmpOf ++ y.tmpOf)
  | _ => o.opTmps
theorem givesI_congr {P : Program} {a b : Act} {o : Oper} {ts : List Nat} {W : World} {R : Value → World → Prop} (ho : o.opTmpsI = some ts) (h : ∀ d ∈ ts, a.tmps[d]? = b.tmps[d]?) (hg : o.givesI P b.eval W R) : o.givesI P a.eval W R := by
  unfold Oper.opTmpsI at ho
  split at ho
  · rename_i t x y hop
    cases ho
    have e1 : a.eval x = b.eval x := eval_tmp_eq fun d hd => h d (List.mem_append_left _ hd)
    have e2 : a.eval y = b.eval y := eval_tmp_eq fun d hd => h d (List.mem_append_right _ hd)
    have e : execOp a.eval o = execOp b.eval o := by unfold execOp; simp only [hop, e1, e2]
    unfold Oper.givesI Oper.gives at hg ⊢
    rw [e]; exact hg
  · rename_i t x y u hop
    cases ho
    have e1 : a.eval x = b.eval x := eval_tmp_eq fun d hd => h d (List.mem_append_left _ hd)
    have e2 : a.eval y = b.eval y := eval_tmp_eq fun d hd => h d (List.mem_append_right _ hd)
    have e : execOp a.eval o = execOp b.eval o := by unfold execOp; simp only [hop, e1, e2]
    unfold Oper.givesI Oper.gives at hg ⊢
    rw [e]; exact hg
  · rcases hg with hg | ⟨w', hr, hR⟩
    · exact .inl (gives_congr ho h hg)
    · have := gives_eval ho h
      exact .inr ⟨w', by rw [this]; exact hr, hR⟩
def Region.fedI (md : Region.Mode) (l : List Oper) (U : Nat → Bool) : Bool := (List.range l.length).all fun i => !U i || match l[i]? with
  | some o => match o.opTmpsI with
    | some ts => (ts.all fun d => (List.range l.length).all fun j => decide ((l[j]?).bind (·.dst) ≠ some d) || o.after.any fun e => Region.binds md e && e.on == j)
    | none => false
  | none => true
section
variable {P : Program} {md : Region.Mode} {l : List Oper} {n : Nat} {U : Nat → Bool} {Q : Exit → Act → World → Prop} {g : Nat} {A : (Nat → Value) → Act} {Φ : Nat → Value → World → Prop} {C : World → Prop} {Inv : Array Bool → World → Prop}
abbrev HeadI (P : Program) (md : Region.Mode) (l : List Oper) (U : Nat → Bool) (n : Nat) (C : World → Prop) (A : (Nat → Value) → Act) (g : Nat) (ν : Nat → Value) : Nat → Array Bool → Act → Prop :=
  HeadAny P md (modU l U ν).toArray C n (fun listed a => Region.seqB md (modU l U ν).toArray g n listed = true ∧ a = A ν)
theorem HeadI.any (hD : Region.dstsB l = true) (hback : Region.backB l = true) (hfed : Region.fedI md l U = true) (hgu : ∀ ν i oi, l[i]? = some oi → U i = true → Region.wanted oi (yielded l.toArray (A ν).tmps) = true ∧ ∀ gi pol, oi.guard = some (gi, pol) → ∃ e ∈ oi.after, Region.binds md e = true ∧ e.on = gi) (hp : ∀ i o, l[i]? = some o → i < n → U i = false → o.plainB = true) (hg : g = l.length - n) (hn : n ≤ l.length)
    (hIC : ∀ listed W, Inv listed W → C W) (hIq : ∀ (listed : Array Bool) W i, i < l.length → U i = false → Inv listed W → Inv (listed.setIfInBounds i true) W)
    (hcall : ∀ c oc, l[c]? = some oc → U c = true → ∀ (ν : Nat → Value) (listed : Array Bool) W, listed.size = l.length → Inv listed W → listed.getD c true = false → (∀ c', U c' = true → (∃ e ∈ oc.after, Region.binds md e = true ∧ e.on = c') → Φ c' (ν c') W) →
      oc.givesI P (A ν).eval W fun v W' => Inv (listed.setIfInBounds c true) W' ∧ Φ c v W' ∧ ∀ c', c' < l.length → U c' = true → listed.getD c' true = true → Φ c' (ν c') W → Φ c' (ν c') W')
    (htail : ∀ (ν : Nat → Value) (listed : Array Bool) W, Inv listed W → (∀ c, c < n → listed.getD c true = true) → (∀ c, c < n → U c = true → Φ c (ν c) W) → wpList P l.toArray Q (l.drop n) (A ν) W) :
    ∀ (f : Nat) (listed : Array Bool) (a : Act) (W : World) (ν : Nat → Value), listed.size = l.length → Inv listed W → (∀ c, c < l.length → U c = true → listed.getD c true = true → Φ c (ν c) W) →
      (∀ ν', (∀ c, c < l.length → U c = true → listed.getD c true = true → ν' c = ν c) → HeadI P md l U n C A g ν' f listed a) → wpAny P md l.toArray Q (f + g) listed a W
  | 0, listed, a, W, ν, hsz, hE, hK, h => by
    obtain ⟨h1, rfl⟩ := h ν (fun _ _ _ _ => rfl)
    rw [seqB_modU] at h1
    have hall : ∀ c, c < n → listed.getD c true = true := by
      intro c
      induction c using Nat.strongRecOn with
      | _ c ih =>
        intro hc
        cases hl : listed.getD c true with
        | true => rfl
        | false =>
          obtain ⟨o, ho⟩ : ∃ o, l[c]? = some o := ⟨_, List.getElem?_eq_getElem (by omega)⟩
          have := seqB_ready h1 c (mem_ready.2 ⟨hl, o, by simpa using ho, fun e he _ => by
            have hlt := backB_spec hback ho e he
            have := ih e.on hlt (by omega)
            rw [Array.getD_eq_getD_getElem?] at this ⊢
            rw [Array.getElem?_eq_getElem (by rw [hsz]; omega)] at this ⊢
            exact this⟩)
          omega
    have h2 := wpAny_of_seq (md := md) (Q' := Q) (l.drop n) n listed (A ν) W (fun j => by simp [List.getElem?_drop]) (by rw [List.length_drop, ← hg]; exact h1) (htail ν listed W hE hall fun c hc hU => hK c (by omega) hU (hall c hc))
    rw [List.length_drop, ← hg] at h2
    rw [Nat.zero_add]; exact h2
  | f + 1, listed, a, W, ν, hsz, hE, hK, h => by
    rw [Nat.add_right_comm]
    have h0 := h ν (fun _ _ _ _ => rfl)
    have hne := h0.1
    rw [ready_modU] at hne
    refine ⟨fun h0 => absurd h0 hne, fun i hi => ?_⟩
    obtain ⟨hun, oi, hoi, hwait⟩ := mem_ready.1 hi
    have hoi' : l[i]? = some oi := by simpa using hoi
    have hil : i < l.length := (List.getElem?_eq_some_iff.1 hoi').1
    have hin : i < listed.size := by rw [hsz]; exact hil
    have hW : C W := hIC _ _ hE
    have hlt : i < n := (h0.2 i (by rw [ready_modU]; exact hi)).1
    cases hU : U i with
    | false =>
      have hset : ∀ ν', (modU l U ν').toArray[i]? = some oi := fun ν' => by rw [List.getElem?_toArray, modU_get, hoi', Option.map_some, hU]; rfl
      have each : ∀ ν', (∀ c, c < l.length → U c = true → listed.getD c true = true → ν' c = ν c) → ∃ v, YieldsIn P (modU l U ν').toArray C oi v a ∧ HeadI P md l U n C A g ν' f (listed.setIfInBounds i true) (a.put oi.dst v) := fun ν' hν' =>
        yieldsIn_of_qOp (hset ν') ((h ν' hν').2 i (by rw [ready_modU]; exact hi)).2
      have hpl := hp i oi hoi' hlt hU
      obtain ⟨v, hy, hv⟩ := each ν (fun _ _ _ _ => rfl)
      refine wpOp_of_yields hoi (yielded_modU ν _) hpl hW hy ?_
      refine HeadI.any hD hback hfed hgu hp hg hn hIC hIq hcall htail f _ _ W ν (by simpa using hsz) (hIq _ _ i hil hU hE) (fun c hc hUc hl => ?_) (fun ν' hν' => ?_)
      · by_cases hci : c = i
        · subst hci; rw [hU] at hUc; cases hUc
        · rw [getD_set_ne true (Ne.symm hci)] at hl; exact hK c hc hUc hl
      · have hag : ∀ c, c < l.length → U c = true → listed.getD c true = true → ν' c = ν c := fun c hc hUc hl => by
          by_cases hci : c = i
          · subst hci; rw [hU] at hUc; cases hUc
          · exact hν' c hc hUc (by rw [getD_set_ne true (Ne.symm hci)]; exact hl)
        obtain ⟨v', hy', hv'⟩ := each ν' hag
        have hvv : v = v' := by
          unfold YieldsIn at hy hy'
          rw [yielded_modU] at hy hy'
          rcases hy with ⟨hw1, hq1⟩ | ⟨hw1, e1⟩ <;> rcases hy' with ⟨hw2, hq2⟩ | ⟨hw2, e2⟩
          · exact quietUpon_same (fun _ _ _ => Oper.not_enter hpl) (hq1 W hW) (hq2 W hW)
          · rw [hw1] at hw2; cases hw2
          · rw [hw1] at hw2; cases hw2
          · rw [e1, e2]
        rw [hvv]; exact hv'
    | true =>
      have hset : ∀ ν', (modU l U ν').toArray[i]? = some (cOp oi (ν' i)) := fun ν' => by rw [List.getElem?_toArray, modU_get, hoi', Option.map_some, hU]; rfl
      have hfd := List.all_eq_true.1 hfed i (List.mem_range.2 hil)
      simp only [hU, hoi', Bool.not_true, Bool.false_or] at hfd
      split at hfd
      case h_2 => cases hfd
      rename_i ts hop
      simp only [List.all_eq_true, List.mem_range] at hfd
      obtain ⟨hwn, hgd⟩ := hgu ν i oi hoi' hU
      have hwa : Region.wanted oi (yielded l.toArray a.tmps) = true := by
        cases hgc : oi.guard with
        | none => unfold Region.wanted; rw [hgc]
        | some gp =>
          obtain ⟨gi, pol⟩ := gp
          obtain ⟨e2, he2, hb2, hon2⟩ := hgd gi pol hgc
          have hgl : gi < l.length := by have := backB_spec hback hoi' e2 he2; omega
          have hlist := hwait e2 he2 hb2
          rw [hon2, Array.getD_eq_getD_getElem?, Array.getElem?_eq_getElem (by rw [hsz]; exact hgl)] at hlist
          have hsame : yielded l.toArray a.tmps gi = yielded l.toArray (A ν).tmps gi := by
            unfold yielded
            obtain ⟨og, hog⟩ : ∃ og, l[gi]? = some og := ⟨_, List.getElem?_eq_getElem hgl⟩
            rw [List.getElem?_toArray, hog, Option.bind_some]
            cases hdg : og.dst with
            | none => rfl
            | some d =>
              rw [Option.bind_some, Option.bind_some]
              have : a.tmps[d]? = (A ν).tmps[d]? := by
                refine HeadAny.val (A := A ν) (fun _ _ h => h.2) (f + 1) _ _ d (fun j oj hj hl e => ?_) h0
                rw [List.getElem?_toArray, modU_get] at hj
                cases hlj : l[j]? with
                | none => rw [hlj] at hj; cases hj
                | some o' =>
                  rw [hlj] at hj
                  simp only [Option.map_some, Option.some.injEq] at hj
                  have e' : o'.dst = some d := by
                    rw [← hj] at e
                    split at e
                    · exact e
                    · exact e
                  obtain rfl := dstsB_spec hD hog hlj hdg e'
                  rw [Array.getD_eq_getD_getElem?, Array.getElem?_eq_getElem (by rw [hsz]; exact hgl)] at hl
                  simp only [Option.getD_some] at hlist hl
                  rw [hl] at hlist
                  cases hlist
              rw [this]
          unfold Region.wanted at hwn ⊢
          rw [hgc] at hwn ⊢
          dsimp only at hwn ⊢
          rw [hsame]
          exact hwn
      have hgv := hcall i oi hoi' hU ν listed W hsz hE hun (fun c' hUc ⟨e, he, hb, hon⟩ => by
        have hlist := hwait e he hb
        rw [hon] at hlist
        have hc' : c' < l.length := by have := backB_spec hback hoi' e he; omega
        refine hK c' hc' hUc ?_
        rw [Array.getD_eq_getD_getElem?] at hlist ⊢
        rw [Array.getElem?_eq_getElem (by rw [hsz]; exact hc')] at hlist ⊢
        exact hlist)
      have hops : ∀ d ∈ ts, a.tmps[d]? = (A ν).tmps[d]? := fun d hd => by
        refine HeadAny.val (A := A ν) (fun _ _ h => h.2) (f + 1) _ _ d (fun j oj hj hl e => ?_) h0
        rw [List.getElem?_toArray, modU_get] at hj
        cases hlj : l[j]? with
        | none => rw [hlj] at hj; cases hj
        | some o' =>
          rw [hlj] at hj
          simp only [Option.map_some, Option.some.injEq] at hj
          have e' : o'.dst = some d := by
            rw [← hj] at e
            split at e
            · exact e
            · exact e
          have hjl : j < l.length := (List.getElem?_eq_some_iff.1 hlj).1
          have h3 := hfd d hd j hjl
          rw [hlj] at h3
          simp only [Option.bind_some, e', ne_eq, not_true_eq_false, decide_false, Bool.false_or, Array.any_eq_true'] at h3
          obtain ⟨e2, he2, h4⟩ := h3
          simp only [Bool.and_eq_true, beq_iff_eq] at h4
          have hlist := hwait e2 he2 h4.1
          rw [h4.2] at hlist
          rw [Array.getD_eq_getD_getElem?, Array.getElem?_eq_getElem (by rw [hsz]; exact hjl)] at hlist hl
          simp only [Option.getD_some] at hlist hl
          rw [hl] at hlist
          cases hlist
      have hgv2 := givesI_congr hop hops hgv
      have next : ∀ v W', Inv (listed.setIfInBounds i true) W' → Φ i v W' → (∀ c', c' < l.length → U c' = true → listed.getD c' true = true → Φ c' (ν c') W → Φ c' (ν c') W') → wpAny P md l.toArray Q (f + g) (listed.setIfInBounds i true) (a.put oi.dst v) W' := by
        intro v W' hEW hΦ hPres
        refine HeadI.any hD hback hfed hgu hp hg hn hIC hIq hcall htail f _ _ W' (updU ν i v) (by simpa using hsz) hEW (fun c' hc' hUc hl => ?_) (fun ν' hν' => ?_)
        · unfold updU
          by_cases hci : c' = i
          · rw [if_pos hci, hci]; exact hΦ
          · rw [if_neg hci]
            rw [getD_set_ne true (Ne.symm hci)] at hl
            exact hPres c' hc' hUc hl (hK c' hc' hUc hl)
        · have hag : ∀ c, c < l.length → U c = true → listed.getD c true = true → ν' c = ν c := fun c hc hUc hl => by
            have hci : c ≠ i := fun e => by rw [e, hun] at hl; cases hl
            have h5 := hν' c hc hUc (by rw [getD_set_ne true (Ne.symm hci)]; exact hl)
            rw [h5]; unfold updU; rw [if_neg hci]
          have hvi : ν' i = v := by
            have h5 := hν' i hil hU (getD_set_same true hin)
            rw [h5]; unfold updU; rw [if_pos rfl]
          obtain ⟨u, hy, hu⟩ := yieldsIn_of_qOp (hset ν') ((h ν' hag).2 i (by rw [ready_modU]; exact hi)).2
          have huv : u = v := by
            unfold YieldsIn at hy
            rcases hy with ⟨_, hq⟩ | ⟨hw, _⟩
            · have h6 := hq W hW
              simp only [Oper.quietAt, cOp, execOp, Sem.run_pure, Oper.quietUpon] at h6
              rw [← h6.2]; exact hvi
            · rw [yielded_modU] at hw
              rw [show Region.wanted (cOp oi (ν' i)) (yielded l.toArray a.tmps) = Region.wanted oi (yielded l.toArray a.tmps) from rfl, hwa] at hw
              cases hw
          rw [huv] at hu
          exact hu
      unfold wpOp
      simp only [hoi]
      rw [if_pos hwa]
      refine .inl ?_
      unfold Oper.wp
      rcases hgv2 with (⟨fn, args, hrun, hc⟩ | ⟨v, W', hrun, hEW, hΦ, hPr⟩) | ⟨W', hrun, hEW, hΦ, hPr⟩
      · rw [hrun, Oper.upon_enter]
        refine hc.mono ?_
        rintro e W' ⟨v, rfl, hEW, hΦ, hPr⟩
        exact next v W' hEW hΦ hPr
      · rw [hrun, Oper.upon_value]
        exact next v W' hEW hΦ hPr
      · rw [hrun, Oper.upon_skip]
        exact next undef W' hEW hΦ hPr
end

theorem wpAny_inv {P : Program} {l : List Oper} {w : World} {Q : Exit → Act → World → Prop} {a : Act} (n : Nat) (U : Nat → Bool) (A : (Nat → Value) → Act) (Φ : Nat → Value → World → Prop) (C : World → Prop) (Inv : Array Bool → World → Prop)
    (hB : ∀ ν, Region.lexTailB .any (modU l U ν).toArray n = true) (hD : Region.dstsB l = true) (hback : Region.backB l = true) (hfed : Region.fedI .any l U = true) (hgu : ∀ ν i oi, l[i]? = some oi → U i = true → Region.wanted oi (yielded l.toArray (A ν).tmps) = true ∧ ∀ gi pol, oi.guard = some (gi, pol) → ∃ e ∈ oi.after, Region.binds .any e = true ∧ e.on = gi) (hp : ∀ i o, l[i]? = some o → i < n → U i = false → o.plainB = true)
    (hIC : ∀ listed W, Inv listed W → C W) (hIq : ∀ (listed : Array Bool) W i, i < l.length → U i = false → Inv listed W → Inv (listed.setIfInBounds i true) W) (h0 : Inv (Array.replicate l.length false) { w with drawn := w.drawn + 1 })
    (hwalk : ∀ ν (L : Act → Prop), L (A ν) → wpQuiet P (modU l U ν).toArray C L ((modU l U ν).take n) a)
    (hcall : ∀ c oc, l[c]? = some oc → U c = true → ∀ (ν : Nat → Value) (listed : Array Bool) W, listed.size = l.length → Inv listed W → listed.getD c true = false → (∀ c', U c' = true → (∃ e ∈ oc.after, Region.binds .any e = true ∧ e.on = c') → Φ c' (ν c') W) →
      oc.givesI P (A ν).eval W fun v W' => Inv (listed.setIfInBounds c true) W' ∧ Φ c v W' ∧ ∀ c', c' < l.length → U c' = true → listed.getD c' true = true → Φ c' (ν c') W → Φ c' (ν c') W')
    (htail : ∀ (ν : Nat → Value) (listed : Array Bool) W, Inv listed W → (∀ c, c < n → listed.getD c true = true) → (∀ c, c < n → U c = true → Φ c (ν c) W) → wpList P l.toArray Q (l.drop n) (A ν) W) :
    wpAny P .any l.toArray Q l.toArray.size (Array.replicate l.toArray.size false) a { w with drawn := w.drawn + 1 } := by
  have hB0 := hB (fun _ => undef)
  simp only [Region.lexTailB, Bool.and_eq_true, decide_eq_true_eq] at hB0
  have hn' : n < l.length := by simpa [modU_len] using hB0.1.1.1.2
  have key := HeadI.any (md := .any) (P := P) (A := A) (Q := Q) (C := C) (Inv := Inv) (Φ := Φ) (g := l.length - n) (n := n) hD hback hfed hgu hp rfl (by omega) hIC hIq hcall htail n (Array.replicate l.toArray.size false) a { w with drawn := w.drawn + 1 } (fun _ => undef) (by simp) (by simpa using h0)
    (fun c hc _ hl => by rw [getD_replicate_lt (by simpa using hc)] at hl; cases hl) (fun ν _ => ?_)
  · rw [show n + (l.length - n) = l.toArray.size by simp; omega] at key
    exact key
  · have hBp := hB ν
    simp only [Region.lexTailB, Bool.and_eq_true, decide_eq_true_eq] at hBp
    obtain ⟨⟨⟨⟨hsel, hn⟩, hs⟩, hc⟩, hlex⟩ := hBp
    have htl : ((modU l U ν).take n).length = n := by rw [List.length_take, modU_len]; omega
    have hgl : (modU l U ν).toArray.size - n = l.length - n := by simp [modU_len]
    have inv0 : HeadInv .any (modU l U ν).toArray n (Array.replicate l.toArray.size false) :=
      ⟨by simp [modU_len], fun j oj _ hl => (by rw [getD_replicate_false] at hl; cases hl), fun t _ ht => getD_in (by simpa [modU_len] using ht) (getD_replicate_false _ _)⟩
    have H := HeadAny.lex (md := .any) (g := l.length - n) hsel hs hc hn ((modU l U ν).take n) 0 _ a (fun j hj => by rw [htl] at hj; simp [hj]) (by simpa using htl) inv0 (by rw [htl]; rw [hgl] at hlex; simpa [modU_len] using hlex) (hwalk ν (fun a' => a' = A ν) rfl)
    rw [htl] at H
    exact H


/-- A world of the class G. -/
structure GW (G : World → Prop) where
  w : World
  h : G w
/-- The worlds with a property, in the shape that the quiet walk wants. -/
theorem wp_region_inv {P : Program} {id : Nat} {Q : Exit → Act → World → Prop} {a : Act} {w : World} {l : List Oper} (n : Nat) (U : Nat → Bool) (Φ : Nat → Value → World → Prop) (G : World → Prop) (Inv : Array Bool → World → Prop) (hm : P.follows .mixedOrders = true)
    (hB : ∀ ν, Region.lexTailB .any (modU l U ν).toArray n = true) (hD : Region.dstsB l = true) (hback : Region.backB l = true) (hfed : (Region.fedI .any l U && Region.freeB l U) = true) (hp : ((List.range n).all fun i => U i || match l[i]? with | some o => o.plainB | none => true) = true)
    (hIC : ∀ listed W, Inv listed W → G W) (hIq : ∀ (listed : Array Bool) W i, i < l.length → U i = false → Inv listed W → Inv (listed.setIfInBounds i true) W) (h0 : Inv (Array.replicate l.length false) w.drew)
    (h : ∃ A : (Nat → Value) → Act, (∀ ν (L : Act → Prop), L (A ν) → wpQuiet P (modU l U ν).toArray (fun W => ∃ X : GW G, W = X.w) L ((modU l U ν).take n) a) ∧
      (∀ c oc, l[c]? = some oc → U c = true → ∀ (ν : Nat → Value) (listed : Array Bool) W, listed.size = l.length → Inv listed W → listed.getD c true = false → (∀ c', U c' = true → (∃ e ∈ oc.after, Region.binds .any e = true ∧ e.on = c') → Φ c' (ν c') W) →
        oc.givesI P (A ν).eval W fun v W' => Inv (listed.setIfInBounds c true) W' ∧ Φ c v W' ∧ ∀ c', c' < l.length → U c' = true → listed.getD c' true = true → Φ c' (ν c') W → Φ c' (ν c') W') ∧
      (∀ (ν : Nat → Value) (listed : Array Bool) W, Inv listed W → (∀ c, c < n → listed.getD c true = true) → (∀ c, c < n → U c = true → Φ c (ν c) W) → wpList P l.toArray Q (l.drop n) (A ν) W)) : (Code.region id l.toArray true).wp P Q a w :=
  let ⟨A, hwalk, hcall, htail⟩ := h
  have hf1 := (Bool.and_eq_true_iff.1 hfed).1
  have hf2 := (Bool.and_eq_true_iff.1 hfed).2
  wp_region_any hm (wpAny_inv n U A Φ _ Inv hB hD hback hf1 (free_wanted hf2) (fun i o hi hin hU => by
    have h1 := List.all_eq_true.1 hp i (List.mem_range.2 hin)
    simpa [hU, hi] using h1) (fun listed W hi => ⟨⟨W, hIC listed W hi⟩, rfl⟩) hIq h0 hwalk hcall htail)
/-- An append of one element to a slice of the function's own, in such a region. -/
theorem gives_append {P : Program} {o : Oper} {ρ : Operand → Value} {W : World} {base e size n : Nat} {v : Value} {xs : List Value} {R : Value → World → Prop} (s x : Operand) {t bytes : Nat} {z : Value} (E : ElemOf P t e z size bytes)
    (ho : o.op = .call { callee := .builtin .append, args := #[s, x], argTypes := #[t, t] })
    (hs : ρ s = v) (hown : W.ownsRow base e size v n xs) (news : List Value) (nb : Nat) (hx : ρ x = .slice (some ⟨nb, 0, none⟩) 1 1) (hnews : ∀ j u, news[j]? = some u → W.cell? ⟨nb, j, none⟩ = some u) (hl : news.length = size) (h1 : ∀ u ∈ news, u.oneCell' = true)
    (hn : n ≤ 1000000000000) (hby : bytes ≤ 100) (hbase : base ≤ W.heap.size)
    (h : ∀ v' w', w'.ownsRow base e size v' (n + 1) (xs ++ news) → AppendedW W w' v v' base → R v' w') : o.givesI P ρ W R := by
  obtain ⟨i0, hi, hz0, hz1, hz2⟩ := info_parts E.inf
  have hnews' : ∀ j u, news[j]? = some u → W.cell? ((⟨nb, 0, none⟩ : Addr).add j) = some u := by
    intro j u hj
    rw [show (⟨nb, 0, none⟩ : Addr).add j = ⟨nb, j, none⟩ from by unfold Addr.add; split <;> simp_all]
    exact hnews j u hj
  have h63 : n + 1 ≤ maxLen := by unfold maxLen; omega
  have hbb : (n + 1) * bytes ≤ 140737488355328 := by
    calc (n + 1) * bytes ≤ (n + 1) * 100 := Nat.mul_le_mul_left _ hby
      _ ≤ 140737488355328 := by omega
  obtain ⟨v', w', hr, ho', hg', _⟩ := run_append_own (P := P) W base t o.type e i0 z size bytes E.und hi hz0 hz1 hz2 E.zs E.pos v n xs hown ⟨nb, 0, none⟩ 1 1 news (by simp [hl]) hnews' h1 h63 hbb hbase
  have hwh := append_where t o.type E hown ⟨nb, 0, none⟩ 1 news hl hnews' h1 h63 hbb hr
  refine .inl (.inr ⟨v', w', ?_, h v' w' ho' ⟨⟨fun A hA hB => exts_grown hA hB hown hg', hg'.size, fun k hk hne => hg'.block k hk hne⟩, fun b hb hne => ?_⟩⟩)
  · unfold execOp
    simp only [ho, resolve, invoke, builtin, Sem.run_bind, Sem.run_pure, Result.andThen_ok, List.map_toArray, List.map_cons, List.map_nil, hs, hx, hr]
  · rcases hwh with e1 | e1
    · rw [e1]; exact hne
    · rw [e1]; simp; omega
/-- A slice of one element is written out, in such a region. -/
theorem gives_slice1 {P : Program} {o : Oper} {ρ : Operand → Value} {W : World} {R : Value → World → Prop} {e n : Nat} {cs : Array Value} (hr : (execOp ρ o).run P W = .ok (.value (.slice (some ⟨W.heap.size, 0, none⟩) n n)) (W.alloc (.cells cs e))) (h : R (.slice (some ⟨W.heap.size, 0, none⟩) n n) (W.alloc (.cells cs e))) : o.givesI P ρ W R := .inl (.inr ⟨_, _, hr, h⟩)
theorem listed_set {listed : Array Bool} {i j : Nat} (hj : j ≠ i) : (listed.setIfInBounds i true).getD j true = listed.getD j true := getD_set_ne true (Ne.symm hj)
end Go
