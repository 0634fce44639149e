/-
  Several texts in one: see the heads of its parts.
-/
import Derived.Test.YtkgchngaganokaaGreatDoorBt
import Derived.Test.YtkgchngaganokaaGreatDoorVjL
import Derived.Test.YtkgchngaganokaaGreatDoorWtB
import Derived.Test.YtkgchngaganokaaGreatDoorTq
import Derived.Test.YtkgchngaganokaaGreatDoorBs

/-
  A region that draws its order, and holds calls, blocks that are made, and one step that writes (an append) among operations that read: the law of XCalls with a condition of the user's own, which may lean on what has run, in the place of 'worlds that extend a world'.
-/
namespace Go
open Go.RowKit

theorem gives_eval {a b : Act} {o : Oper} {ts : List Nat} (ho : o.opTmps = some ts) (h : ∀ d ∈ ts, a.tmps[d]? = b.tmps[d]?) : execOp a.eval o = execOp b.eval o := by
  unfold Oper.opTmps at ho
  split at ho
  · rename_i c hop
    cases ho
    have e1 : c.args.map a.eval = c.args.map b.eval := by
      apply Array.map_congr_left
      intro x hx
      exact eval_tmp_eq fun d hd => h d (List.mem_append_left _ (List.mem_flatMap.2 ⟨x, by simpa using hx, hd⟩))
    have e2 : resolve a.eval c o.type = resolve b.eval c o.type := by
      unfold resolve
      rw [e1]
      cases hc : c.callee with
      | builtin b => rfl
      | invoke r name =>
        have : a.eval r = b.eval r := eval_tmp_eq fun d hd => h d (List.mem_append_right _ (by rw [hc]; exact hd))
        simp [this]
      | value f =>
        have : a.eval f = b.eval f := eval_tmp_eq fun d hd => h d (List.mem_append_right _ (by rw [hc]; exact hd))
        simp [this]
    unfold execOp
    simp only [hop, e2]
  · rename_i t n parts hop
    cases ho
    have e1 : (parts.map fun x => (x.1, a.eval x.2)) = parts.map fun x => (x.1, b.eval x.2) := by
      apply Array.map_congr_left
      intro x hx
      have : a.eval x.2 = b.eval x.2 := eval_tmp_eq fun d hd => h d (List.mem_flatMap.2 ⟨x, by simpa using hx, hd⟩)
      rw [this]
    unfold execOp
    simp only [hop, e1]
  · rename_i t parts hop
    cases ho
    have e1 : (parts.map fun x => (x.1, a.eval x.2)) = parts.map fun x => (x.1, b.eval x.2) := by
      apply Array.map_congr_left
      intro x hx
      have : a.eval x.2 = b.eval x.2 := eval_tmp_eq fun d hd => h d (List.mem_flatMap.2 ⟨x, by simpa using hx, hd⟩)
      rw [this]
    unfold execOp
    simp only [hop, e1]
  · rename_i t x hop
    cases ho
    have e1 : a.eval x = b.eval x := eval_tmp_eq h
    unfold execOp
    simp only [hop, e1]
  · rename_i t hop
    unfold execOp
    simp only [hop]
  · cases ho
/-- An operation, as it stands: what comes of it; a store, too. -/
def Oper.givesI (P : Program) (o : Oper) (ρ : Operand → Value) (w : World) (R : Value → World → Prop) : Prop := o.gives P ρ w R ∨ ∃ w', (execOp ρ o).run P w = .ok .skip w' ∧ R undef w'
def Oper.opTmpsI (o : Oper) : Option (List Nat) :=
  match o.op with
  | .store _ x y => some (x.tmpOf ++ y.tmpOf)
  | .binOp _ _ x y _ => some (x.tmpOf ++ y.tmpOf)
  | _ => o.opTmps
theorem givesI_congr {P : Program} {a b : Act} {o : Oper} {ts : List Nat} {W : World} {R : Value → World → Prop} (ho : o.opTmpsI = some ts) (h : ∀ d ∈ ts, a.tmps[d]? = b.tmps[d]?) (hg : o.givesI P b.eval W R) : o.givesI P a.eval W R := by
  unfold Oper.opTmpsI at ho
  split at ho
  · rename_i t x y hop
    cases ho
    have e1 : a.eval x = b.eval x := eval_tmp_eq fun d hd => h d (List.mem_append_left _ hd)
    have e2 : a.eval y = b.eval y := eval_tmp_eq fun d hd => h d (List.mem_append_right _ hd)
    have e : execOp a.eval o = execOp b.eval o := by unfold execOp; simp only [hop, e1, e2]
    unfold Oper.givesI Oper.gives at hg ⊢
    rw [e]; exact hg
  · rename_i t x y u hop
    cases ho
    have e1 : a.eval x = b.eval x := eval_tmp_eq fun d hd => h d (List.mem_append_left _ hd)
    have e2 : a.eval y = b.eval y := eval_tmp_eq fun d hd => h d (List.mem_append_right _ hd)
    have e : execOp a.eval o = execOp b.eval o := by unfold execOp; simp only [hop, e1, e2]
    unfold Oper.givesI Oper.gives at hg ⊢
    rw [e]; exact hg
  · rcases hg with hg | ⟨w', hr, hR⟩
    · exact .inl (gives_congr ho h hg)
    · have := gives_eval ho h
      exact .inr ⟨w', by rw [this]; exact hr, hR⟩
def Region.fedI (md : Region.Mode) (l : List Oper) (U : Nat → Bool) : Bool := (List.range l.length).all fun i => !U i || match l[i]? with
  | some o => match o.opTmpsI with
    | some ts => (ts.all fun d => (List.range l.length).all fun j => decide ((l[j]?).bind (·.dst) ≠ some d) || o.after.any fun e => Region.binds md e && e.on == j)
    | none => false
  | none => true
section
variable {P : Program} {md : Region.Mode} {l : List Oper} {n : Nat} {U : Nat → Bool} {Q : Exit → Act → World → Prop} {g : Nat} {A : (Nat → Value) → Act} {Φ : Nat → Value → World → Prop} {C : World → Prop} {Inv : Array Bool → World → Prop}
abbrev HeadI (P : Program) (md : Region.Mode) (l : List Oper) (U : Nat → Bool) (n : Nat) (C : World → Prop) (A : (Nat → Value) → Act) (g : Nat) (ν : Nat → Value) : Nat → Array Bool → Act → Prop :=
  HeadAny P md (modU l U ν).toArray C n (fun listed a => Region.seqB md (modU l U ν).toArray g n listed = true ∧ a = A ν)
theorem HeadI.any (hD : Region.dstsB l = true) (hback : Region.backB l = true) (hfed : Region.fedI md l U = true) (hgu : ∀ ν i oi, l[i]? = some oi → U i = true → Region.wanted oi (yielded l.toArray (A ν).tmps) = true ∧ ∀ gi pol, oi.guard = some (gi, pol) → ∃ e ∈ oi.after, Region.binds md e = true ∧ e.on = gi) (hp : ∀ i o, l[i]? = some o → i < n → U i = false → o.plainB = true) (hg : g = l.length - n) (hn : n ≤ l.length)
    (hIC : ∀ listed W, Inv listed W → C W) (hIq : ∀ (listed : Array Bool) W i, i < l.length → U i = false → Inv listed W → Inv (listed.setIfInBounds i true) W)
    (hcall : ∀ c oc, l[c]? = some oc → U c = true → ∀ (ν : Nat → Value) (listed : Array Bool) W, listed.size = l.length → Inv listed W → listed.getD c true = false → (∀ c', U c' = true → (∃ e ∈ oc.after, Region.binds md e = true ∧ e.on = c') → Φ c' (ν c') W) →
      oc.givesI P (A ν).eval W fun v W' => Inv (listed.setIfInBounds c true) W' ∧ Φ c v W' ∧ ∀ c', c' < l.length → U c' = true → listed.getD c' true = true → Φ c' (ν c') W → Φ c' (ν c') W')
    (htail : ∀ (ν : Nat → Value) (listed : Array Bool) W, Inv listed W → (∀ c, c < n → listed.getD c true = true) → (∀ c, c < n → U c = true → Φ c (ν c) W) → wpList P l.toArray Q (l.drop n) (A ν) W) :
    ∀ (f : Nat) (listed : Array Bool) (a : Act) (W : World) (ν : Nat → Value), listed.size = l.length → Inv listed W → (∀ c, c < l.length → U c = true → listed.getD c true = true → Φ c (ν c) W) →
      (∀ ν', (∀ c, c < l.length → U c = true → listed.getD c true = true → ν' c = ν c) → HeadI P md l U n C A g ν' f listed a) → wpAny P md l.toArray Q (f + g) listed a W
  | 0, listed, a, W, ν, hsz, hE, hK, h => by
    obtain ⟨h1, rfl⟩ := h ν (fun _ _ _ _ => rfl)
    rw [seqB_modU] at h1
    have hall : ∀ c, c < n → listed.getD c true = true := by
      intro c
      induction c using Nat.strongRecOn with
      | _ c ih =>
        intro hc
        cases hl : listed.getD c true with
        | true => rfl
        | false =>
          obtain ⟨o, ho⟩ : ∃ o, l[c]? = some o := ⟨_, List.getElem?_eq_getElem (by omega)⟩
          have := seqB_ready h1 c (mem_ready.2 ⟨hl, o, by simpa using ho, fun e he _ => by
            have hlt := backB_spec hback ho e he
            have := ih e.on hlt (by omega)
            rw [Array.getD_eq_getD_getElem?] at this ⊢
            rw [Array.getElem?_eq_getElem (by rw [hsz]; omega)] at this ⊢
            exact this⟩)
          omega
    have h2 := wpAny_of_seq (md := md) (Q' := Q) (l.drop n) n listed (A ν) W (fun j => by simp [List.getElem?_drop]) (by rw [List.length_drop, ← hg]; exact h1) (htail ν listed W hE hall fun c hc hU => hK c (by omega) hU (hall c hc))
    rw [List.length_drop, ← hg] at h2
    rw [Nat.zero_add]; exact h2
  | f + 1, listed, a, W, ν, hsz, hE, hK, h => by
    rw [Nat.add_right_comm]
    have h0 := h ν (fun _ _ _ _ => rfl)
    have hne := h0.1
    rw [ready_modU] at hne
    refine ⟨fun h0 => absurd h0 hne, fun i hi => ?_⟩
    obtain ⟨hun, oi, hoi, hwait⟩ := mem_ready.1 hi
    have hoi' : l[i]? = some oi := by simpa using hoi
    have hil : i < l.length := (List.getElem?_eq_some_iff.1 hoi').1
    have hin : i < listed.size := by rw [hsz]; exact hil
    have hW : C W := hIC _ _ hE
    have hlt : i < n := (h0.2 i (by rw [ready_modU]; exact hi)).1
    cases hU : U i with
    | false =>
      have hset : ∀ ν', (modU l U ν').toArray[i]? = some oi := fun ν' => by rw [List.getElem?_toArray, modU_get, hoi', Option.map_some, hU]; rfl
      have each : ∀ ν', (∀ c, c < l.length → U c = true → listed.getD c true = true → ν' c = ν c) → ∃ v, YieldsIn P (modU l U ν').toArray C oi v a ∧ HeadI P md l U n C A g ν' f (listed.setIfInBounds i true) (a.put oi.dst v) := fun ν' hν' =>
        yieldsIn_of_qOp (hset ν') ((h ν' hν').2 i (by rw [ready_modU]; exact hi)).2
      have hpl := hp i oi hoi' hlt hU
      obtain ⟨v, hy, hv⟩ := each ν (fun _ _ _ _ => rfl)
      refine wpOp_of_yields hoi (yielded_modU ν _) hpl hW hy ?_
      refine HeadI.any hD hback hfed hgu hp hg hn hIC hIq hcall htail f _ _ W ν (by simpa using hsz) (hIq _ _ i hil hU hE) (fun c hc hUc hl => ?_) (fun ν' hν' => ?_)
      · by_cases hci : c = i
        · subst hci; rw [hU] at hUc; cases hUc
        · rw [getD_set_ne true (Ne.symm hci)] at hl; exact hK c hc hUc hl
      · have hag : ∀ c, c < l.length → U c = true → listed.getD c true = true → ν' c = ν c := fun c hc hUc hl => by
          by_cases hci : c = i
          · subst hci; rw [hU] at hUc; cases hUc
          · exact hν' c hc hUc (by rw [getD_set_ne true (Ne.symm hci)]; exact hl)
        obtain ⟨v', hy', hv'⟩ := each ν' hag
        have hvv : v = v' := by
          unfold YieldsIn at hy hy'
          rw [yielded_modU] at hy hy'
          rcases hy with ⟨hw1, hq1⟩ | ⟨hw1, e1⟩ <;> rcases hy' with ⟨hw2, hq2⟩ | ⟨hw2, e2⟩
          · exact quietUpon_same (fun _ _ _ => Oper.not_enter hpl) (hq1 W hW) (hq2 W hW)
          · rw [hw1] at hw2; cases hw2
          · rw [hw1] at hw2; cases hw2
          · rw [e1, e2]
        rw [hvv]; exact hv'
    | true =>
      have hset : ∀ ν', (modU l U ν').toArray[i]? = some (cOp oi (ν' i)) := fun ν' => by rw [List.getElem?_toArray, modU_get, hoi', Option.map_some, hU]; rfl
      have hfd := List.all_eq_true.1 hfed i (List.mem_range.2 hil)
      simp only [hU, hoi', Bool.not_true, Bool.false_or] at hfd
      split at hfd
      case h_2 => cases hfd
      rename_i ts hop
      simp only [List.all_eq_true, List.mem_range] at hfd
      obtain ⟨hwn, hgd⟩ := hgu ν i oi hoi' hU
      have hwa : Region.wanted oi (yielded l.toArray a.tmps) = true := by
        cases hgc : oi.guard with
        | none => unfold Region.wanted; rw [hgc]
        | some gp =>
          obtain ⟨gi, pol⟩ := gp
          obtain ⟨e2, he2, hb2, hon2⟩ := hgd gi pol hgc
          have hgl : gi < l.length := by have := backB_spec hback hoi' e2 he2; omega
          have hlist := hwait e2 he2 hb2
          rw [hon2, Array.getD_eq_getD_getElem?, Array.getElem?_eq_getElem (by rw [hsz]; exact hgl)] at hlist
          have hsame : yielded l.toArray a.tmps gi = yielded l.toArray (A ν).tmps gi := by
            unfold yielded
            obtain ⟨og, hog⟩ : ∃ og, l[gi]? = some og := ⟨_, List.getElem?_eq_getElem hgl⟩
            rw [List.getElem?_toArray, hog, Option.bind_some]
            cases hdg : og.dst with
            | none => rfl
            | some d =>
              rw [Option.bind_some, Option.bind_some]
              have : a.tmps[d]? = (A ν).tmps[d]? := by
                refine HeadAny.val (A := A ν) (fun _ _ h => h.2) (f + 1) _ _ d (fun j oj hj hl e => ?_) h0
                rw [List.getElem?_toArray, modU_get] at hj
                cases hlj : l[j]? with
                | none => rw [hlj] at hj; cases hj
                | some o' =>
                  rw [hlj] at hj
                  simp only [Option.map_some, Option.some.injEq] at hj
                  have e' : o'.dst = some d := by
                    rw [← hj] at e
                    split at e
                    · exact e
                    · exact e
                  obtain rfl := dstsB_spec hD hog hlj hdg e'
                  rw [Array.getD_eq_getD_getElem?, Array.getElem?_eq_getElem (by rw [hsz]; exact hgl)] at hl
                  simp only [Option.getD_some] at hlist hl
                  rw [hl] at hlist
                  cases hlist
              rw [this]
          unfold Region.wanted at hwn ⊢
          rw [hgc] at hwn ⊢
          dsimp only at hwn ⊢
          rw [hsame]
          exact hwn
      have hgv := hcall i oi hoi' hU ν listed W hsz hE hun (fun c' hUc ⟨e, he, hb, hon⟩ => by
        have hlist := hwait e he hb
        rw [hon] at hlist
        have hc' : c' < l.length := by have := backB_spec hback hoi' e he; omega
        refine hK c' hc' hUc ?_
        rw [Array.getD_eq_getD_getElem?] at hlist ⊢
        rw [Array.getElem?_eq_getElem (by rw [hsz]; exact hc')] at hlist ⊢
        exact hlist)
      have hops : ∀ d ∈ ts, a.tmps[d]? = (A ν).tmps[d]? := fun d hd => by
        refine HeadAny.val (A := A ν) (fun _ _ h => h.2) (f + 1) _ _ d (fun j oj hj hl e => ?_) h0
        rw [List.getElem?_toArray, modU_get] at hj
        cases hlj : l[j]? with
        | none => rw [hlj] at hj; cases hj
        | some o' =>
          rw [hlj] at hj
          simp only [Option.map_some, Option.some.injEq] at hj
          have e' : o'.dst = some d := by
            rw [← hj] at e
            split at e
            · exact e
            · exact e
          have hjl : j < l.length := (List.getElem?_eq_some_iff.1 hlj).1
          have h3 := hfd d hd j hjl
          rw [hlj] at h3
          simp only [Option.bind_some, e', ne_eq, not_true_eq_false, decide_false, Bool.false_or, Array.any_eq_true'] at h3
          obtain ⟨e2, he2, h4⟩ := h3
          simp only [Bool.and_eq_true, beq_iff_eq] at h4
          have hlist := hwait e2 he2 h4.1
          rw [h4.2] at hlist
          rw [Array.getD_eq_getD_getElem?, Array.getElem?_eq_getElem (by rw [hsz]; exact hjl)] at hlist hl
          simp only [Option.getD_some] at hlist hl
          rw [hl] at hlist
          cases hlist
      have hgv2 := givesI_congr hop hops hgv
      have next : ∀ v W', Inv (listed.setIfInBounds i true) W' → Φ i v W' → (∀ c', c' < l.length → U c' = true → listed.getD c' true = true → Φ c' (ν c') W → Φ c' (ν c') W') → wpAny P md l.toArray Q (f + g) (listed.setIfInBounds i true) (a.put oi.dst v) W' := by
        intro v W' hEW hΦ hPres
        refine HeadI.any hD hback hfed hgu hp hg hn hIC hIq hcall htail f _ _ W' (updU ν i v) (by simpa using hsz) hEW (fun c' hc' hUc hl => ?_) (fun ν' hν' => ?_)
        · unfold updU
          by_cases hci : c' = i
          · rw [if_pos hci, hci]; exact hΦ
          · rw [if_neg hci]
            rw [getD_set_ne true (Ne.symm hci)] at hl
            exact hPres c' hc' hUc hl (hK c' hc' hUc hl)
        · have hag : ∀ c, c < l.length → U c = true → listed.getD c true = true → ν' c = ν c := fun c hc hUc hl => by
            have hci : c ≠ i := fun e => by rw [e, hun] at hl; cases hl
            have h5 := hν' c hc hUc (by rw [getD_set_ne true (Ne.symm hci)]; exact hl)
            rw [h5]; unfold updU; rw [if_neg hci]
          have hvi : ν' i = v := by
            have h5 := hν' i hil hU (getD_set_same true hin)
            rw [h5]; unfold updU; rw [if_pos rfl]
          obtain ⟨u, hy, hu⟩ := yieldsIn_of_qOp (hset ν') ((h ν' hag).2 i (by rw [ready_modU]; exact hi)).2
          have huv : u = v := by
            unfold YieldsIn at hy
            rcases hy with ⟨_, hq⟩ | ⟨hw, _⟩
            · have h6 := hq W hW
              simp only [Oper.quietAt, cOp, execOp, Sem.run_pure, Oper.quietUpon] at h6
              rw [← h6.2]; exact hvi
            · rw [yielded_modU] at hw
              rw [show Region.wanted (cOp oi (ν' i)) (yielded l.toArray a.tmps) = Region.wanted oi (yielded l.toArray a.tmps) from rfl, hwa] at hw
              cases hw
          rw [huv] at hu
          exact hu
      unfold wpOp
      simp only [hoi]
      rw [if_pos hwa]
      refine .inl ?_
      unfold Oper.wp
      rcases hgv2 with (⟨fn, args, hrun, hc⟩ | ⟨v, W', hrun, hEW, hΦ, hPr⟩) | ⟨W', hrun, hEW, hΦ, hPr⟩
      · rw [hrun, Oper.upon_enter]
        refine hc.mono ?_
        rintro e W' ⟨v, rfl, hEW, hΦ, hPr⟩
        exact next v W' hEW hΦ hPr
      · rw [hrun, Oper.upon_value]
        exact next v W' hEW hΦ hPr
      · rw [hrun, Oper.upon_skip]
        exact next undef W' hEW hΦ hPr
end

theorem wpAny_inv {P : Program} {l : List Oper} {w : World} {Q : Exit → Act → World → Prop} {a : Act} (n : Nat) (U : Nat → Bool) (A : (Nat → Value) → Act) (Φ : Nat → Value → World → Prop) (C : World → Prop) (Inv : Array Bool → World → Prop)
    (hB : ∀ ν, Region.lexTailB .any (modU l U ν).toArray n = true) (hD : Region.dstsB l = true) (hback : Region.backB l = true) (hfed : Region.fedI .any l U = true) (hgu : ∀ ν i oi, l[i]? = some oi → U i = true → Region.wanted oi (yielded l.toArray (A ν).tmps) = true ∧ ∀ gi pol, oi.guard = some (gi, pol) → ∃ e ∈ oi.after, Region.binds .any e = true ∧ e.on = gi) (hp : ∀ i o, l[i]? = some o → i < n → U i = false → o.plainB = true)
    (hIC : ∀ listed W, Inv listed W → C W) (hIq : ∀ (listed : Array Bool) W i, i < l.length → U i = false → Inv listed W → Inv (listed.setIfInBounds i true) W) (h0 : Inv (Array.replicate l.length false) { w with drawn := w.drawn + 1 })
    (hwalk : ∀ ν (L : Act → Prop), L (A ν) → wpQuiet P (modU l U ν).toArray C L ((modU l U ν).take n) a)
    (hcall : ∀ c oc, l[c]? = some oc → U c = true → ∀ (ν : Nat → Value) (listed : Array Bool) W, listed.size = l.length → Inv listed W → listed.getD c true = false → (∀ c', U c' = true → (∃ e ∈ oc.after, Region.binds .any e = true ∧ e.on = c') → Φ c' (ν c') W) →
      oc.givesI P (A ν).eval W fun v W' => Inv (listed.setIfInBounds c true) W' ∧ Φ c v W' ∧ ∀ c', c' < l.length → U c' = true → listed.getD c' true = true → Φ c' (ν c') W → Φ c' (ν c') W')
    (htail : ∀ (ν : Nat → Value) (listed : Array Bool) W, Inv listed W → (∀ c, c < n → listed.getD c true = true) → (∀ c, c < n → U c = true → Φ c (ν c) W) → wpList P l.toArray Q (l.drop n) (A ν) W) :
    wpAny P .any l.toArray Q l.toArray.size (Array.replicate l.toArray.size false) a { w with drawn := w.drawn + 1 } := by
  have hB0 := hB (fun _ => undef)
  simp only [Region.lexTailB, Bool.and_eq_true, decide_eq_true_eq] at hB0
  have hn' : n < l.length := by simpa [modU_len] using hB0.1.1.1.2
  have key := HeadI.any (md := .any) (P := P) (A := A) (Q := Q) (C := C) (Inv := Inv) (Φ := Φ) (g := l.length - n) (n := n) hD hback hfed hgu hp rfl (by omega) hIC hIq hcall htail n (Array.replicate l.toArray.size false) a { w with drawn := w.drawn + 1 } (fun _ => undef) (by simp) (by simpa using h0)
    (fun c hc _ hl => by rw [getD_replicate_lt (by simpa using hc)] at hl; cases hl) (fun ν _ => ?_)
  · rw [show n + (l.length - n) = l.toArray.size by simp; omega] at key
    exact key
  · have hBp := hB ν
    simp only [Region.lexTailB, Bool.and_eq_true, decide_eq_true_eq] at hBp
    obtain ⟨⟨⟨⟨hsel, hn⟩, hs⟩, hc⟩, hlex⟩ := hBp
    have htl : ((modU l U ν).take n).length = n := by rw [List.length_take, modU_len]; omega
    have hgl : (modU l U ν).toArray.size - n = l.length - n := by simp [modU_len]
    have inv0 : HeadInv .any (modU l U ν).toArray n (Array.replicate l.toArray.size false) :=
      ⟨by simp [modU_len], fun j oj _ hl => (by rw [getD_replicate_false] at hl; cases hl), fun t _ ht => getD_in (by simpa [modU_len] using ht) (getD_replicate_false _ _)⟩
    have H := HeadAny.lex (md := .any) (g := l.length - n) hsel hs hc hn ((modU l U ν).take n) 0 _ a (fun j hj => by rw [htl] at hj; simp [hj]) (by simpa using htl) inv0 (by rw [htl]; rw [hgl] at hlex; simpa [modU_len] using hlex) (hwalk ν (fun a' => a' = A ν) rfl)
    rw [htl] at H
    exact H


/-- A world of the class G. -/
structure GW (G : World → Prop) where
  w : World
  h : G w
/-- The worlds with a property, in the shape that the quiet walk wants. -/
theorem wp_region_inv {P : Program} {id : Nat} {Q : Exit → Act → World → Prop} {a : Act} {w : World} {l : List Oper} (n : Nat) (U : Nat → Bool) (Φ : Nat → Value → World → Prop) (G : World → Prop) (Inv : Array Bool → World → Prop) (hm : P.follows .mixedOrders = true)
    (hB : ∀ ν, Region.lexTailB .any (modU l U ν).toArray n = true) (hD : Region.dstsB l = true) (hback : Region.backB l = true) (hfed : (Region.fedI .any l U && Region.freeB l U) = true) (hp : ((List.range n).all fun i => U i || match l[i]? with | some o => o.plainB | none => true) = true)
    (hIC : ∀ listed W, Inv listed W → G W) (hIq : ∀ (listed : Array Bool) W i, i < l.length → U i = false → Inv listed W → Inv (listed.setIfInBounds i true) W) (h0 : Inv (Array.replicate l.length false) w.drew)
    (h : ∃ A : (Nat → Value) → Act, (∀ ν (L : Act → Prop), L (A ν) → wpQuiet P (modU l U ν).toArray (fun W => ∃ X : GW G, W = X.w) L ((modU l U ν).take n) a) ∧
      (∀ c oc, l[c]? = some oc → U c = true → ∀ (ν : Nat → Value) (listed : Array Bool) W, listed.size = l.length → Inv listed W → listed.getD c true = false → (∀ c', U c' = true → (∃ e ∈ oc.after, Region.binds .any e = true ∧ e.on = c') → Φ c' (ν c') W) →
        oc.givesI P (A ν).eval W fun v W' => Inv (listed.setIfInBounds c true) W' ∧ Φ c v W' ∧ ∀ c', c' < l.length → U c' = true → listed.getD c' true = true → Φ c' (ν c') W → Φ c' (ν c') W') ∧
      (∀ (ν : Nat → Value) (listed : Array Bool) W, Inv listed W → (∀ c, c < n → listed.getD c true = true) → (∀ c, c < n → U c = true → Φ c (ν c) W) → wpList P l.toArray Q (l.drop n) (A ν) W)) : (Code.region id l.toArray true).wp P Q a w :=
  let ⟨A, hwalk, hcall, htail⟩ := h
  have hf1 := (Bool.and_eq_true_iff.1 hfed).1
  have hf2 := (Bool.and_eq_true_iff.1 hfed).2
  wp_region_any hm (wpAny_inv n U A Φ _ Inv hB hD hback hf1 (free_wanted hf2) (fun i o hi hin hU => by
    have h1 := List.all_eq_true.1 hp i (List.mem_range.2 hin)
    simpa [hU, hi] using h1) (fun listed W hi => ⟨⟨W, hIC listed W hi⟩, rfl⟩) hIq h0 hwalk hcall htail)
/-- An append of one element to a slice of the function's own, in such a region. -/
theorem gives_append {P : Program} {o : Oper} {ρ : Operand → Value} {W : World} {base e size n : Nat} {v : Value} {xs : List Value} {R : Value → World → Prop} (s x : Operand) {t bytes : Nat} {z : Value} (E : ElemOf P t e z size bytes)
    (ho : o.op = .call { callee := .builtin .append, args := #[s, x], argTypes := #[t, t] })
    (hs : ρ s = v) (hown : W.ownsRow base e size v n xs) (news : List Value) (nb : Nat) (hx : ρ x = .slice (some ⟨nb, 0, none⟩) 1 1) (hnews : ∀ j u, news[j]? = some u → W.cell? ⟨nb, j, none⟩ = some u) (hl : news.length = size) (h1 : ∀ u ∈ news, u.oneCell' = true)
    (hn : n ≤ 1000000000000) (hby : bytes ≤ 100) (hbase : base ≤ W.heap.size)
    (h : ∀ v' w', w'.ownsRow base e size v' (n + 1) (xs ++ news) → AppendedW W w' v v' base → R v' w') : o.givesI P ρ W R := by
  obtain ⟨i0, hi, hz0, hz1, hz2⟩ := info_parts E.inf
  have hnews' : ∀ j u, news[j]? = some u → W.cell? ((⟨nb, 0, none⟩ : Addr).add j) = some u := by
    intro j u hj
    rw [show (⟨nb, 0, none⟩ : Addr).add j = ⟨nb, j, none⟩ from by unfold Addr.add; split <;> simp_all]
    exact hnews j u hj
  have h63 : n + 1 ≤ maxLen := by unfold maxLen; omega
  have hbb : (n + 1) * bytes ≤ 140737488355328 := by
    calc (n + 1) * bytes ≤ (n + 1) * 100 := Nat.mul_le_mul_left _ hby
      _ ≤ 140737488355328 := by omega
  obtain ⟨v', w', hr, ho', hg', _⟩ := run_append_own (P := P) W base t o.type e i0 z size bytes E.und hi hz0 hz1 hz2 E.zs E.pos v n xs hown ⟨nb, 0, none⟩ 1 1 news (by simp [hl]) hnews' h1 h63 hbb hbase
  have hwh := append_where t o.type E hown ⟨nb, 0, none⟩ 1 news hl hnews' h1 h63 hbb hr
  refine .inl (.inr ⟨v', w', ?_, h v' w' ho' ⟨⟨fun A hA hB => exts_grown hA hB hown hg', hg'.size, fun k hk hne => hg'.block k hk hne⟩, fun b hb hne => ?_⟩⟩)
  · unfold execOp
    simp only [ho, resolve, invoke, builtin, Sem.run_bind, Sem.run_pure, Result.andThen_ok, List.map_toArray, List.map_cons, List.map_nil, hs, hx, hr]
  · rcases hwh with e1 | e1
    · rw [e1]; exact hne
    · rw [e1]; simp; omega
/-- A slice of one element is written out, in such a region. -/
theorem gives_slice1 {P : Program} {o : Oper} {ρ : Operand → Value} {W : World} {R : Value → World → Prop} {e n : Nat} {cs : Array Value} (hr : (execOp ρ o).run P W = .ok (.value (.slice (some ⟨W.heap.size, 0, none⟩) n n)) (W.alloc (.cells cs e))) (h : R (.slice (some ⟨W.heap.size, 0, none⟩) n n) (W.alloc (.cells cs e))) : o.givesI P ρ W R := .inl (.inr ⟨_, _, hr, h⟩)
theorem listed_set {listed : Array Bool} {i j : Nat} (hj : j ≠ i) : (listed.setIfInBounds i true).getD j true = listed.getD j true := getD_set_ne true (Ne.symm hj)
end Go

/-
  A region that draws its order, holds calls whose guards may be false, and may write into blocks of its own: the law of XCallsS, where each operation says what it keeps.
-/
namespace Go
open Go.RowKit

/-- The temporaries that such an operation reads; a store's, too. -/
def Oper.opTmpsW (o : Oper) : Option (List Nat) :=
  match o.op with
  | .store _ x y => some (x.tmpOf ++ y.tmpOf)
  | .convert _ _ x => some x.tmpOf
  | _ => o.opTmpsK
theorem givesI_congrK {P : Program} {a b : Act} {o : Oper} {ts : List Nat} {W : World} {R : Value → World → Prop} (ho : o.opTmpsW = some ts) (h : ∀ d ∈ ts, a.tmps[d]? = b.tmps[d]?) (hg : o.givesI P b.eval W R) : o.givesI P a.eval W R := by
  unfold Oper.opTmpsW at ho
  split at ho
  · rename_i t x y hop
    cases ho
    have e1 : a.eval x = b.eval x := eval_tmp_eq fun d hd => h d (List.mem_append_left _ hd)
    have e2 : a.eval y = b.eval y := eval_tmp_eq fun d hd => h d (List.mem_append_right _ hd)
    have e : execOp a.eval o = execOp b.eval o := by unfold execOp; simp only [hop, e1, e2]
    unfold Oper.givesI Oper.gives at hg ⊢
    rw [e]; exact hg
  · rename_i s d x hop
    cases ho
    have e1 : a.eval x = b.eval x := eval_tmp_eq h
    have e : execOp a.eval o = execOp b.eval o := by unfold execOp; simp only [hop, e1]
    unfold Oper.givesI Oper.gives at hg ⊢
    rw [e]; exact hg
  · rename_i hns
    rcases hg with hg | ⟨w', hr, hR⟩
    · exact .inl (gives_congrK ho h hg)
    · refine .inr ⟨w', ?_, hR⟩
      have e : execOp a.eval o = execOp b.eval o := by
        unfold Oper.opTmpsK at ho
        split at ho
        · rename_i x i hop
          cases ho
          have e1 : a.eval x = b.eval x := eval_tmp_eq h
          unfold execOp; simp only [hop, e1]
        · rename_i x hop
          cases ho
          have e1 : a.eval x = b.eval x := eval_tmp_eq h
          unfold execOp; simp only [hop, e1]
        · rename_i x hop
          cases ho
          have e1 : a.eval x = b.eval x := eval_tmp_eq h
          unfold execOp; simp only [hop, e1]
        · exact gives_eval ho h
      rw [e]; exact hr
def Region.fedW (md : Region.Mode) (l : List Oper) (U : Nat → Bool) : Bool := (List.range l.length).all fun i => !U i || match l[i]? with
  | some o => match o.opTmpsW with
    | some ts => (ts.all fun d => (List.range l.length).all fun j => decide ((l[j]?).bind (·.dst) ≠ some d) || o.after.any fun e => Region.binds md e && e.on == j)
    | none => false
  | none => true

section
variable {P : Program} {md : Region.Mode} {l : List Oper} {n : Nat} {U : Nat → Bool} {w : World} {Q : Exit → Act → World → Prop} {g : Nat} {A : (Nat → Value) → Act} {Φ : Nat → Value → World → Prop} {kv : Nat → Option Value}

theorem HeadW.any (hkv : ∀ c v W u, Φ c v W → kv c = some u → v = u) (hD : Region.dstsB l = true) (hback : Region.backK md l = true) (hfed : Region.fedW md l U = true) (hgu : ∀ ν, Knows kv ν → ∀ i oi, l[i]? = some oi → U i = true → (Region.wanted oi (yielded l.toArray (A ν).tmps) = true ∨ (Region.wanted oi (yielded l.toArray (A ν).tmps) = false ∧ ∀ W, Φ i undef W)) ∧ ∀ gi pol, oi.guard = some (gi, pol) → ∃ e ∈ oi.after, Region.binds md e = true ∧ e.on = gi) (hp : ∀ i o, l[i]? = some o → i < n → U i = false → o.plainB = true) (hg : g = l.length - n) (hn : n ≤ l.length)
    (hcall : ∀ c oc, l[c]? = some oc → U c = true → ∀ ν, Knows kv ν → Region.wanted oc (yielded l.toArray (A ν).tmps) = true → ∀ W, w.Exts W → (∀ c', U c' = true → (∃ e ∈ oc.after, Region.binds md e = true ∧ e.on = c') → Φ c' (ν c') W) → oc.givesI P (A ν).eval W fun v W' => w.Exts W' ∧ Φ c v W' ∧ ∀ c' v', U c' = true → c' ≠ c → Φ c' v' W → Φ c' v' W')
    (htail : ∀ ν, Knows kv ν → ∀ W, w.Exts W → (∀ c, c < n → U c = true → Φ c (ν c) W) → wpList P l.toArray Q (l.drop n) (A ν) W) :
    ∀ (f : Nat) (listed : Array Bool) (a : Act) (W : World) (ν : Nat → Value), Knows kv ν → listed.size = l.length → w.Exts W → (∀ c, c < l.length → U c = true → listed.getD c true = true → Φ c (ν c) W) →
      (∀ ν', Knows kv ν' → (∀ c, c < l.length → U c = true → listed.getD c true = true → ν' c = ν c) → HeadC P md l U n w A g ν' f listed a) → wpAny P md l.toArray Q (f + g) listed a W
  | 0, listed, a, W, ν, hkn, hsz, hE, hK, h => by
    obtain ⟨h1, rfl⟩ := h ν hkn (fun _ _ _ _ => rfl)
    rw [seqB_modU] at h1
    have hall : ∀ c, c < n → listed.getD c true = true := by
      intro c
      induction c using Nat.strongRecOn with
      | _ c ih =>
        intro hc
        cases hl : listed.getD c true with
        | true => rfl
        | false =>
          obtain ⟨o, ho⟩ : ∃ o, l[c]? = some o := ⟨_, List.getElem?_eq_getElem (by omega)⟩
          have := seqB_ready h1 c (mem_ready.2 ⟨hl, o, by simpa using ho, fun e he hb => by
            have hlt := backK_spec hback ho e he hb
            have := ih e.on hlt (by omega)
            rw [Array.getD_eq_getD_getElem?] at this ⊢
            rw [Array.getElem?_eq_getElem (by rw [hsz]; omega)] at this ⊢
            exact this⟩)
          omega
    have h2 := wpAny_of_seq (md := md) (Q' := Q) (l.drop n) n listed (A ν) W (fun j => by simp [List.getElem?_drop]) (by rw [List.length_drop, ← hg]; exact h1) (htail ν hkn W hE fun c hc hU => hK c (by omega) hU (hall c hc))
    rw [List.length_drop, ← hg] at h2
    rw [Nat.zero_add]; exact h2
  | f + 1, listed, a, W, ν, hkn, hsz, hE, hK, h => by
    rw [Nat.add_right_comm]
    have h0 := h ν hkn (fun _ _ _ _ => rfl)
    have hne := h0.1
    rw [ready_modU] at hne
    refine ⟨fun h0 => absurd h0 hne, fun i hi => ?_⟩
    obtain ⟨hun, oi, hoi, hwait⟩ := mem_ready.1 hi
    have hoi' : l[i]? = some oi := by simpa using hoi
    have hil : i < l.length := (List.getElem?_eq_some_iff.1 hoi').1
    have hin : i < listed.size := by rw [hsz]; exact hil
    have hW : ∃ X : Ext w, W = w.ext X := hE
    have hlt : i < n := (h0.2 i (by rw [ready_modU]; exact hi)).1
    cases hU : U i with
    | false =>
      have hset : ∀ ν', (modU l U ν').toArray[i]? = some oi := fun ν' => by rw [List.getElem?_toArray, modU_get, hoi', Option.map_some, hU]; rfl
      have each : ∀ ν', Knows kv ν' → (∀ c, c < l.length → U c = true → listed.getD c true = true → ν' c = ν c) → ∃ v, YieldsIn P (modU l U ν').toArray (fun W => ∃ X : Ext w, W = w.ext X) oi v a ∧ HeadC P md l U n w A g ν' f (listed.setIfInBounds i true) (a.put oi.dst v) := fun ν' hkn' hν' =>
        yieldsIn_of_qOp (hset ν') ((h ν' hkn' hν').2 i (by rw [ready_modU]; exact hi)).2
      have hpl := hp i oi hoi' hlt hU
      obtain ⟨v, hy, hv⟩ := each ν hkn (fun _ _ _ _ => rfl)
      refine wpOp_of_yields hoi (yielded_modU ν _) hpl hW hy ?_
      refine HeadW.any hkv hD hback hfed hgu hp hg hn hcall htail f _ _ W ν hkn (by simpa using hsz) hE (fun c hc hUc hl => ?_) (fun ν' hkn' hν' => ?_)
      · by_cases hci : c = i
        · subst hci; rw [hU] at hUc; cases hUc
        · rw [getD_set_ne true (Ne.symm hci)] at hl; exact hK c hc hUc hl
      · have hag : ∀ c, c < l.length → U c = true → listed.getD c true = true → ν' c = ν c := fun c hc hUc hl => by
          by_cases hci : c = i
          · subst hci; rw [hU] at hUc; cases hUc
          · exact hν' c hc hUc (by rw [getD_set_ne true (Ne.symm hci)]; exact hl)
        obtain ⟨v', hy', hv'⟩ := each ν' hkn' hag
        have hvv : v = v' := by
          unfold YieldsIn at hy hy'
          rw [yielded_modU] at hy hy'
          rcases hy with ⟨hw1, hq1⟩ | ⟨hw1, e1⟩ <;> rcases hy' with ⟨hw2, hq2⟩ | ⟨hw2, e2⟩
          · exact quietUpon_same (fun _ _ _ => Oper.not_enter hpl) (hq1 W hW) (hq2 W hW)
          · rw [hw1] at hw2; cases hw2
          · rw [hw1] at hw2; cases hw2
          · rw [e1, e2]
        rw [hvv]; exact hv'
    | true =>
      have hset : ∀ ν', (modU l U ν').toArray[i]? = some (cOp oi (ν' i)) := fun ν' => by rw [List.getElem?_toArray, modU_get, hoi', Option.map_some, hU]; rfl
      have hfd := List.all_eq_true.1 hfed i (List.mem_range.2 hil)
      simp only [hU, hoi', Bool.not_true, Bool.false_or] at hfd
      split at hfd
      case h_2 => cases hfd
      rename_i ts hop
      simp only [List.all_eq_true, List.mem_range] at hfd
      obtain ⟨hwn, hgd⟩ := hgu ν hkn i oi hoi' hU
      have hwe : Region.wanted oi (yielded l.toArray a.tmps) = Region.wanted oi (yielded l.toArray (A ν).tmps) := by
        cases hgc : oi.guard with
        | none => unfold Region.wanted; rw [hgc]
        | some gp =>
          obtain ⟨gi, pol⟩ := gp
          obtain ⟨e2, he2, hb2, hon2⟩ := hgd gi pol hgc
          have hgl : gi < l.length := by have := backK_spec hback hoi' e2 he2 hb2; omega
          have hlist := hwait e2 he2 hb2
          rw [hon2, Array.getD_eq_getD_getElem?, Array.getElem?_eq_getElem (by rw [hsz]; exact hgl)] at hlist
          have hsame : yielded l.toArray a.tmps gi = yielded l.toArray (A ν).tmps gi := by
            unfold yielded
            obtain ⟨og, hog⟩ : ∃ og, l[gi]? = some og := ⟨_, List.getElem?_eq_getElem hgl⟩
            rw [List.getElem?_toArray, hog, Option.bind_some]
            cases hdg : og.dst with
            | none => rfl
            | some d =>
              rw [Option.bind_some, Option.bind_some]
              have : a.tmps[d]? = (A ν).tmps[d]? := by
                refine HeadAny.val (A := A ν) (fun _ _ h => h.2) (f + 1) _ _ d (fun j oj hj hl e => ?_) h0
                rw [List.getElem?_toArray, modU_get] at hj
                cases hlj : l[j]? with
                | none => rw [hlj] at hj; cases hj
                | some o' =>
                  rw [hlj] at hj
                  simp only [Option.map_some, Option.some.injEq] at hj
                  have e' : o'.dst = some d := by
                    rw [← hj] at e
                    split at e
                    · exact e
                    · exact e
                  obtain rfl := dstsB_spec hD hog hlj hdg e'
                  rw [Array.getD_eq_getD_getElem?, Array.getElem?_eq_getElem (by rw [hsz]; exact hgl)] at hl
                  simp only [Option.getD_some] at hlist hl
                  rw [hl] at hlist
                  cases hlist
              rw [this]
          unfold Region.wanted
          rw [hgc]
          dsimp only
          rw [hsame]
      have next : ∀ v W', (Region.wanted oi (yielded l.toArray a.tmps) = true ∨ (Region.wanted oi (yielded l.toArray a.tmps) = false ∧ v = undef)) → w.Exts W' → Φ i v W' → (∀ c' v', U c' = true → c' ≠ i → Φ c' v' W → Φ c' v' W') → wpAny P md l.toArray Q (f + g) (listed.setIfInBounds i true) (a.put oi.dst v) W' := by
        intro v W' hcs hEW hΦ hPr
        refine HeadW.any hkv hD hback hfed hgu hp hg hn hcall htail f _ _ W' (updU ν i v) (hkn.upd fun u hc => hkv _ _ _ _ hΦ hc) (by simpa using hsz) hEW (fun c' hc' hUc hl => ?_) (fun ν' hkn' hν' => ?_)
        · unfold updU
          by_cases hci : c' = i
          · rw [if_pos hci, hci]; exact hΦ
          · rw [if_neg hci]
            rw [getD_set_ne true (Ne.symm hci)] at hl
            exact hPr c' _ hUc hci (hK c' hc' hUc hl)
        · have hag : ∀ c, c < l.length → U c = true → listed.getD c true = true → ν' c = ν c := fun c hc hUc hl => by
            have hci : c ≠ i := fun e => by rw [e, hun] at hl; cases hl
            have h5 := hν' c hc hUc (by rw [getD_set_ne true (Ne.symm hci)]; exact hl)
            rw [h5]; unfold updU; rw [if_neg hci]
          have hvi : ν' i = v := by
            have h5 := hν' i hil hU (getD_set_same true hin)
            rw [h5]; unfold updU; rw [if_pos rfl]
          obtain ⟨u, hy, hu⟩ := yieldsIn_of_qOp (hset ν') ((h ν' hkn' hag).2 i (by rw [ready_modU]; exact hi)).2
          have huv : u = v := by
            unfold YieldsIn at hy
            rcases hy with ⟨hw, hq⟩ | ⟨hw, hu⟩
            · have h6 := hq W hW
              simp only [Oper.quietAt, cOp, execOp, Sem.run_pure, Oper.quietUpon] at h6
              rw [← h6.2]; exact hvi
            · rw [yielded_modU] at hw
              rw [show Region.wanted (cOp oi (ν' i)) (yielded l.toArray a.tmps) = Region.wanted oi (yielded l.toArray a.tmps) from rfl] at hw
              rcases hcs with hcs | ⟨_, hcs⟩
              · rw [hcs] at hw; cases hw
              · rw [hu, hcs]
          rw [huv] at hu
          exact hu
      rcases hwn with hwn | ⟨hwn, hund⟩
      · have hwa := hwe.trans hwn
        have hgv := hcall i oi hoi' hU ν hkn hwn W hE (fun c' hUc ⟨e, he, hb, hon⟩ => by
          have hlist := hwait e he hb
          rw [hon] at hlist
          have hc' : c' < l.length := by have := backK_spec hback hoi' e he hb; omega
          refine hK c' hc' hUc ?_
          rw [Array.getD_eq_getD_getElem?] at hlist ⊢
          rw [Array.getElem?_eq_getElem (by rw [hsz]; exact hc')] at hlist ⊢
          exact hlist)
        have hops : ∀ d ∈ ts, a.tmps[d]? = (A ν).tmps[d]? := fun d hd => by
          refine HeadAny.val (A := A ν) (fun _ _ h => h.2) (f + 1) _ _ d (fun j oj hj hl e => ?_) h0
          rw [List.getElem?_toArray, modU_get] at hj
          cases hlj : l[j]? with
          | none => rw [hlj] at hj; cases hj
          | some o' =>
            rw [hlj] at hj
            simp only [Option.map_some, Option.some.injEq] at hj
            have e' : o'.dst = some d := by
              rw [← hj] at e
              split at e
              · exact e
              · exact e
            have hjl : j < l.length := (List.getElem?_eq_some_iff.1 hlj).1
            have h3 := hfd d hd j hjl
            rw [hlj] at h3
            simp only [Option.bind_some, e', ne_eq, not_true_eq_false, decide_false, Bool.false_or, Array.any_eq_true'] at h3
            obtain ⟨e2, he2, h4⟩ := h3
            simp only [Bool.and_eq_true, beq_iff_eq] at h4
            have hlist := hwait e2 he2 h4.1
            rw [h4.2] at hlist
            rw [Array.getD_eq_getD_getElem?, Array.getElem?_eq_getElem (by rw [hsz]; exact hjl)] at hlist hl
            simp only [Option.getD_some] at hlist hl
            rw [hl] at hlist
            cases hlist
        have hgv2 := givesI_congrK hop hops hgv
        unfold wpOp
        simp only [hoi]
        rw [if_pos hwa]
        refine .inl ?_
        unfold Oper.wp
        rcases hgv2 with (⟨fn, args, hrun, hc⟩ | ⟨v, W', hrun, hEW, hΦ, hPr⟩) | ⟨W', hrun, hEW, hΦ, hPr⟩
        · rw [hrun, Oper.upon_enter]
          refine hc.mono ?_
          rintro e W' ⟨v, rfl, hEW, hΦ, hPr⟩
          exact next v W' (.inl hwa) hEW hΦ hPr
        · rw [hrun, Oper.upon_value]
          exact next v W' (.inl hwa) hEW hΦ hPr
        · rw [hrun, Oper.upon_skip]
          exact next undef W' (.inl hwa) hEW hΦ hPr
      · have hwa := hwe.trans hwn
        unfold wpOp
        simp only [hoi]
        rw [if_neg (by rw [hwa]; simp)]
        exact next undef W (.inr ⟨hwa, rfl⟩) hE (hund W) (fun _ _ _ _ h => h)
end

theorem wpAny_callsW {P : Program} {l : List Oper} {w : World} {Q : Exit → Act → World → Prop} {a : Act} (n : Nat) (U : Nat → Bool) (A : (Nat → Value) → Act) (Φ : Nat → Value → World → Prop) (kv : Nat → Option Value) (hkv : ∀ c v W u, Φ c v W → kv c = some u → v = u)
    (hB : ∀ ν, Region.lexTailB .any (modU l U ν).toArray n = true) (hD : Region.dstsB l = true) (hback : Region.backK .any l = true) (hfed : Region.fedW .any l U = true) (hgu : ∀ ν, Knows kv ν → ∀ i oi, l[i]? = some oi → U i = true → (Region.wanted oi (yielded l.toArray (A ν).tmps) = true ∨ (Region.wanted oi (yielded l.toArray (A ν).tmps) = false ∧ ∀ W, Φ i undef W)) ∧ ∀ gi pol, oi.guard = some (gi, pol) → ∃ e ∈ oi.after, Region.binds .any e = true ∧ e.on = gi) (hp : ∀ i o, l[i]? = some o → i < n → U i = false → o.plainB = true)
    (hwalk : ∀ ν, Knows kv ν → ∀ (L : Act → Prop), L (A ν) → wpQuiet P (modU l U ν).toArray (fun W => ∃ X : Ext w, W = w.ext X) L ((modU l U ν).take n) a)
    (hcall : ∀ c oc, l[c]? = some oc → U c = true → ∀ ν, Knows kv ν → Region.wanted oc (yielded l.toArray (A ν).tmps) = true → ∀ W, w.Exts W → (∀ c', U c' = true → (∃ e ∈ oc.after, Region.binds .any e = true ∧ e.on = c') → Φ c' (ν c') W) → oc.givesI P (A ν).eval W fun v W' => w.Exts W' ∧ Φ c v W' ∧ ∀ c' v', U c' = true → c' ≠ c → Φ c' v' W → Φ c' v' W')
    (htail : ∀ ν, Knows kv ν → ∀ W, w.Exts W → (∀ c, c < n → U c = true → Φ c (ν c) W) → wpList P l.toArray Q (l.drop n) (A ν) W) :
    wpAny P .any l.toArray Q l.toArray.size (Array.replicate l.toArray.size false) a { w with drawn := w.drawn + 1 } := by
  have hB0 := hB (fun _ => undef)
  simp only [Region.lexTailB, Bool.and_eq_true, decide_eq_true_eq] at hB0
  have hn' : n < l.length := by simpa [modU_len] using hB0.1.1.1.2
  have key := HeadW.any (md := .any) (P := P) (w := w) (A := A) (Q := Q) (g := l.length - n) (n := n) hkv hD hback hfed hgu hp rfl (by omega) hcall htail n (Array.replicate l.toArray.size false) a { w with drawn := w.drawn + 1 } (fun c => (kv c).getD undef) (fun c u (hc : kv c = some u) => by dsimp only; rw [hc]; rfl) (by simp) ⟨⟨w.drew, (Below.refl _ _).drew⟩, rfl⟩
    (fun c hc _ hl => by rw [getD_replicate_lt (by simpa using hc)] at hl; cases hl) (fun ν hkn _ => ?_)
  · rw [show n + (l.length - n) = l.toArray.size by simp; omega] at key
    exact key
  · have hBp := hB ν
    simp only [Region.lexTailB, Bool.and_eq_true, decide_eq_true_eq] at hBp
    obtain ⟨⟨⟨⟨hsel, hn⟩, hs⟩, hc⟩, hlex⟩ := hBp
    have htl : ((modU l U ν).take n).length = n := by rw [List.length_take, modU_len]; omega
    have hgl : (modU l U ν).toArray.size - n = l.length - n := by simp [modU_len]
    have inv0 : HeadInv .any (modU l U ν).toArray n (Array.replicate l.toArray.size false) :=
      ⟨by simp [modU_len], fun j oj _ hl => (by rw [getD_replicate_false] at hl; cases hl), fun t _ ht => getD_in (by simpa [modU_len] using ht) (getD_replicate_false _ _)⟩
    have H := HeadAny.lex (md := .any) (g := l.length - n) hsel hs hc hn ((modU l U ν).take n) 0 _ a (fun j hj => by rw [htl] at hj; simp [hj]) (by simpa using htl) inv0 (by rw [htl]; rw [hgl] at hlex; simpa [modU_len] using hlex) (hwalk ν hkn (fun a' => a' = A ν) rfl)
    rw [htl] at H
    exact H

theorem wp_region_callsW {P : Program} {id : Nat} {Q : Exit → Act → World → Prop} {a : Act} {w : World} {l : List Oper} (n : Nat) (U : Nat → Bool) (Φ : Nat → Value → World → Prop) (kv : Nat → Option Value) (hm : P.follows .mixedOrders = true)
    (hB : ∀ ν, Region.lexTailB .any (modU l U ν).toArray n = true) (hD : Region.dstsB l = true) (hback : Region.backK .any l = true) (hfed : Region.fedW .any l U = true) (hgf : Region.guardFedB .any l U = true) (hp : ((List.range n).all fun i => U i || match l[i]? with | some o => o.plainB | none => true) = true)
    (hkv : ∀ c v W u, Φ c v W → kv c = some u → v = u)
    (h : ∃ A : (Nat → Value) → Act, (∀ ν, Knows kv ν → ∀ i oi, l[i]? = some oi → U i = true → Region.wanted oi (yielded l.toArray (A ν).tmps) = true ∨ (Region.wanted oi (yielded l.toArray (A ν).tmps) = false ∧ ∀ W, Φ i undef W)) ∧ (∀ ν, Knows kv ν → ∀ (L : Act → Prop), L (A ν) → wpQuiet P l.toArray (fun W => ∃ X : Ext w, W = w.ext X) L (modTo U ν 0 n l) a) ∧
      (∀ c oc, l[c]? = some oc → U c = true → ∀ ν, Knows kv ν → Region.wanted oc (yielded l.toArray (A ν).tmps) = true → ∀ W, w.Exts W → (∀ c', U c' = true → (∃ e ∈ oc.after, Region.binds .any e = true ∧ e.on = c') → Φ c' (ν c') W) → oc.givesI P (A ν).eval W fun v W' => w.Exts W' ∧ Φ c v W' ∧ ∀ c' v', U c' = true → c' ≠ c → Φ c' v' W → Φ c' v' W') ∧
      (∀ ν, Knows kv ν → ∀ W, w.Exts W → (∀ c, c < n → U c = true → Φ c (ν c) W) → wpList P l.toArray Q (l.drop n) (A ν) W)) : (Code.region id l.toArray true).wp P Q a w :=
  let ⟨A, hwant, hwalk, hcall, htail⟩ := h
  wp_region_any hm (wpAny_callsW n U A Φ kv hkv hB hD hback hfed (fun ν hkn i oi hi hU => ⟨hwant ν hkn i oi hi hU, guardFedB_spec hgf hi hU⟩) (fun i o hi hin hU => by
    have h1 := List.all_eq_true.1 hp i (List.mem_range.2 hin)
    simpa [hU, hi] using h1) (fun ν hkn L hL => by
      have h1 := hwalk ν hkn L hL
      rw [← modTo_eq] at h1
      exact wpQuiet_ops (fun tmps => (yielded_modU ν tmps).symm) _ _ h1) hcall htail)
end Go

/-
  Walks of the laws' package of sheets: has, choose.
-/
namespace Go.Proofs.YtkgchngaganokaaGreatDoor
open Go.RowKit Kr
set_option linter.unusedSimpArgs false
set_option linter.unusedVariables false

/-- A block that was made, behind other calls. -/
theorem lays_after {A W : World} {cs : Array Value} {t : TypeId} (hE : (A.alloc (.cells cs t)).Exts W) : LaysAs W A.heap.size (.cells cs t) := (laysAs_size A (.cells cs t) rfl).exts hE
theorem lays_after_ex {A W : World} {cs : Array Value} {t : TypeId} (hE : (A.alloc (.cells cs t)).Exts W) : ∃ bx, bx = A.heap.size ∧ LaysAs W bx (.cells cs t) ∧ bx < W.heap.size ∧ (∀ b, (A.alloc (.cells cs t)).heap.size ≤ b → bx < b) ∧ ∀ w : World, w.Exts A → w.heap.size ≤ bx :=
  ⟨_, rfl, lays_after hE, (lays_after hE).lt, fun b hb => by rw [World.size_alloc] at hb; omega, fun w h => h.size⟩
theorem ownsRow_near {W W' : World} {base base2 e size n : Nat} {v out out' : Value} {xs : List Value} (h : W.ownsRow base2 e size v n xs) (hne : ∀ b, v.ownBlock = some b → out.ownBlock ≠ some b) (ha : AppendedW W W' out out' base) :
    W'.ownsRow base2 e size v n xs ∧ ∀ b, v.ownBlock = some b → out'.ownBlock ≠ some b := by
  refine ⟨⟨h.1, h.2.imp id ?_⟩, fun b hb => ha.beside b (h.lt b hb).2 (hne b hb)⟩
  rintro ⟨g, cap, cur, rfl, h1, h2, r⟩
  exact ⟨g, cap, cur, rfl, h1, by rw [ha.block g (Array.getElem?_eq_some_iff.1 h2).1 (fun e => hne g rfl e.symm)]; exact h2, r⟩
/-- Three rows of numbers of one's own. -/
structure Own3 (A W : World) (e : TypeId) (s : Value) (xs : List Nat) (l : Value) (ys : List Nat) (r : Value) (zs : List Nat) : Prop where
  o1 : W.ownsRow A.heap.size e 1 s xs.length (xs.flatMap fun k : Nat => [.int .i64 (k : Int)])
  o2 : W.ownsRow A.heap.size e 1 l ys.length (ys.flatMap fun k : Nat => [.int .i64 (k : Int)])
  o3 : W.ownsRow A.heap.size e 1 r zs.length (zs.flatMap fun k : Nat => [.int .i64 (k : Int)])
  d12 : ∀ b, l.ownBlock = some b → s.ownBlock ≠ some b
  d13 : ∀ b, r.ownBlock = some b → s.ownBlock ≠ some b
  d23 : ∀ b, r.ownBlock = some b → l.ownBlock ≠ some b
  exts : A.Exts W
section
variable {A W W' : World} {e a : Nat} {s s' l r : Value} {xs ys zs : List Nat}
theorem Own3.later (h : Own3 A W e s xs l ys r zs) (hE : W.Exts W') : Own3 A W' e s xs l ys r zs := ⟨ownsRow_exts h.o1 hE, ownsRow_exts h.o2 hE, ownsRow_exts h.o3 hE, h.d12, h.d13, h.d23, h.exts.trans hE⟩
theorem Own3.push1 (h : Own3 A W e s xs l ys r zs) (ho : W'.ownsRow A.heap.size e 1 s' (xs.length + 1) (xs.flatMap (fun k : Nat => [.int .i64 (k : Int)]) ++ [.int .i64 (a : Int)])) (ha : AppendedW W W' s s' A.heap.size) : Own3 A W' e s' (xs ++ [a]) l ys r zs := by
  obtain ⟨p2, q2⟩ := ownsRow_near h.o2 h.d12 ha
  obtain ⟨p3, q3⟩ := ownsRow_near h.o3 h.d13 ha
  exact ⟨by rw [List.length_append, List.flatMap_append]; exact ho, p2, p3, q2, q3, h.d23, ha.exts A h.exts (Nat.le_refl _)⟩
theorem Own3.push2 (h : Own3 A W e s xs l ys r zs) (ho : W'.ownsRow A.heap.size e 1 s' (ys.length + 1) (ys.flatMap (fun k : Nat => [.int .i64 (k : Int)]) ++ [.int .i64 (a : Int)])) (ha : AppendedW W W' l s' A.heap.size) : Own3 A W' e s xs s' (ys ++ [a]) r zs := by
  obtain ⟨p1, q1⟩ := ownsRow_near h.o1 (fun b hb e => h.d12 b e hb) ha
  obtain ⟨p3, q3⟩ := ownsRow_near h.o3 h.d23 ha
  exact ⟨p1, by rw [List.length_append, List.flatMap_append]; exact ho, p3, fun b hb e => q1 b e hb, h.d13, q3, ha.exts A h.exts (Nat.le_refl _)⟩
theorem Own3.push3 (h : Own3 A W e s xs l ys r zs) (ho : W'.ownsRow A.heap.size e 1 s' (zs.length + 1) (zs.flatMap (fun k : Nat => [.int .i64 (k : Int)]) ++ [.int .i64 (a : Int)])) (ha : AppendedW W W' r s' A.heap.size) : Own3 A W' e s xs l ys s' (zs ++ [a]) := by
  obtain ⟨p1, q1⟩ := ownsRow_near h.o1 (fun b hb e => h.d13 b e hb) ha
  obtain ⟨p2, q2⟩ := ownsRow_near h.o2 (fun b hb e => h.d23 b e hb) ha
  exact ⟨p1, p2, by rw [List.length_append, List.flatMap_append]; exact ho, h.d12, fun b hb e => q1 b e hb, fun b hb e => q2 b e hb, ha.exts A h.exts (Nat.le_refl _)⟩
end
theorem own_nats {W : World} {base e : Nat} {v : Value} {xs : List Nat} (h : W.ownsRow base e 1 v xs.length (xs.flatMap fun k : Nat => [.int .i64 (k : Int)])) : IsRow (fun x : Int => [.int .i64 x]) 1 W v (xs.map fun k : Nat => (k : Int)) := by
  refine IsRow.of_owns (base := base) (e := e) ?_ fun _ _ => rfl
  rw [List.length_map, List.flatMap_map]
  exact h
theorem Own3.row1 {A W : World} {e : Nat} {s l r : Value} {xs ys zs : List Nat} (h : Own3 A W e s xs l ys r zs) : IsRow (fun x : Int => [.int .i64 x]) 1 W s (xs.map fun k : Nat => (k : Int)) := own_nats h.o1
theorem Own3.row2 {A W : World} {e : Nat} {s l r : Value} {xs ys zs : List Nat} (h : Own3 A W e s xs l ys r zs) : IsRow (fun x : Int => [.int .i64 x]) 1 W l (ys.map fun k : Nat => (k : Int)) := own_nats h.o2
theorem Own3.row3 {A W : World} {e : Nat} {s l r : Value} {xs ys zs : List Nat} (h : Own3 A W e s xs l ys r zs) : IsRow (fun x : Int => [.int .i64 x]) 1 W r (zs.map fun k : Nat => (k : Int)) := own_nats h.o3
/-- A box that is written, and what extends it. -/
theorem exts_set {A W : World} {p : Addr} (h : A.Exts W) (hp : p.block < A.heap.size) (u : Value) : (A.setCell p u).Exts (W.setCell p u) := by
  have hb := h.below
  refine .of ⟨hb.os, hb.tape, hb.output, by simpa using hb.size, fun k hk => ?_⟩
  have hk' : k < A.heap.size := by simpa using hk
  by_cases e : k = p.block
  · subst e
    have := hb.block _ hk'
    unfold World.setCell
    simp [Array.getElem?_modify, this]
  · rw [World.heap_set_other _ _ _ e, World.heap_set_other _ _ _ e]
    exact hb.block _ hk'
/-- A world of later, in which one block of the first one may be another one. -/
structure Turn (A W : World) (b : Nat) : Prop where
  ex : ∃ V : World, A.grownBy V (some b) ∧ V.heap.size = A.heap.size ∧ V.Exts W
theorem Turn.refl (A : World) (b : Nat) : Turn A A b := ⟨A, grown_exts (World.Exts.refl _), rfl, World.Exts.refl _⟩
section
variable {A W W' : World} {b : Nat}
theorem Turn.later (h : Turn A W b) (hE : W.Exts W') : Turn A W' b := by
  obtain ⟨V, h1, h2, h3⟩ := h.ex
  exact ⟨V, h1, h2, h3.trans hE⟩
theorem Turn.appended {v : Value} {base : Nat} (h : Turn A W b) (ha : Appended W W' v base) (hB : A.heap.size ≤ base) : Turn A W' b := by
  obtain ⟨V, h1, h2, h3⟩ := h.ex
  exact ⟨V, h1, h2, ha.exts V h3 (by omega)⟩
theorem Turn.set (h : Turn A W b) (hb : b < A.heap.size) (i : Nat) (u : Value) : Turn A (W.setCell ⟨b, i, none⟩ u) b := by
  obtain ⟨V, h1, h2, h3⟩ := h.ex
  exact ⟨V.setCell ⟨b, i, none⟩ u, grown_trans h1 (grown_set V b i u), by simpa using h2, exts_set h3 (by dsimp only; omega) u⟩
theorem Turn.size (h : Turn A W b) : A.heap.size ≤ W.heap.size := by
  obtain ⟨V, h1, h2, h3⟩ := h.ex
  have := h3.size
  omega
theorem Turn.cell {g i : Nat} {u : Value} (h : Turn A W b) (hc : A.cell? ⟨g, i, none⟩ = some u) (hp : g ≠ b) : W.cell? ⟨g, i, none⟩ = some u := by
  obtain ⟨V, h1, h2, h3⟩ := h.ex
  refine h3.cell ?_
  have hlt : g < A.heap.size := World.block_lt_of_cell? A _ hc
  have he := h1.block g hlt (fun e => hp (by cases e; rfl))
  unfold World.cell? at hc ⊢
  rw [he]
  exact hc
theorem Turn.lays {k : Nat} {o : Obj} (h : Turn A W b) (hl : LaysAs A k o) (hk : k ≠ b) : LaysAs W k o := by
  obtain ⟨V, h1, h2, h3⟩ := h.ex
  exact (hl.grown h1 hk).exts h3
theorem Turn.base {w : World} (h : Turn A W b) (hE : w.Exts A) (hb : w.heap.size ≤ b) : w.Exts W := by
  obtain ⟨V, h1, h2, h3⟩ := h.ex
  exact (exts_turned hE hb h1).trans h3
theorem Turn.row {α : Type} {enc : α → List Value} {k : Nat} {v : Value} {xs : List α} (h : Turn A W b) (hr : IsRow enc k A v xs) (hb : v.ownBlock ≠ some b) : IsRow enc k W v xs := by
  obtain ⟨p, g, o, cap, rfl, hm, hp, hc⟩ := hr.ex
  rcases Nat.eq_zero_or_pos xs.length with h0 | h0
  · exact ⟨p, g, o, cap, rfl, hm, fun h => by omega, fun i x hx => by have := (List.getElem?_eq_some_iff.1 hx).1; omega⟩
  · obtain ⟨rfl, hl⟩ := hp h0
    have hne : g ≠ b := fun e => hb (by rw [e]; rfl)
    refine ⟨_, g, o, cap, rfl, hm, fun _ => ⟨rfl, ⟨Nat.lt_of_lt_of_le hl.lt h.size⟩⟩, fun i x hx j u hu => h.cell (hc i x hx j u hu) hne⟩
end
/-- The number of a list that goes round. -/
def roundL (by_ : List Int) (i : Nat) : Int := if by_.length = 0 then 0 else by_.getD (i % by_.length) 0
theorem roundL_bd {l : List Int} (hb : ∀ x ∈ l, 0 ≤ x ∧ x ≤ 4294967295) (i : Nat) : 0 ≤ roundL l i ∧ roundL l i ≤ 4294967295 := by
  unfold roundL
  split
  · omega
  · rw [List.getD_eq_getElem?_getD]
    cases h : l[i % l.length]? with
    | none => simp
    | some x => simpa using hb x (List.mem_of_getElem? h)
set_option maxHeartbeats 1000000 in
theorem l11_choose_any (l : List Int) (v : Value) (i : Nat) (w : World) (hrow : IsRow (fun x : Int => [.int .u32 x]) 1 w v l) (hb : ∀ x ∈ l, 0 ≤ x ∧ x ≤ 4294967295) (hi : i ≤ 1000000) :
    Calls Tryz.prog 16 #[v, .int .i64 i] w fun e w' => e = .returned (.int .i64 (roundL l i)) ∧ w.Exts w' := by
  obtain ⟨p, b, o, cap, rfl, hm, hp, hc⟩ := hrow.ex
  by_cases h0 : l.length = 0
  · have hf : roundL l i = 0 := by unfold roundL; rw [if_pos h0]
    have h0' : ((l.length : Int) == 0) = true := by simp [h0]
    have H0 := Lib.hid h0
    clear h0
    clear hp hc hrow hb
    go_enter Tryz.func16, Tryz.ntmps16
    go_wp2_with fail
    go_ret
    exact ⟨by rw [hf]; rfl, exq⟩
  · have hlt : i % l.length < l.length := Nat.mod_lt _ (by omega)
    obtain ⟨rfl, hl⟩ := hp (by omega)
    obtain ⟨x, hx⟩ := some_of_lt hlt
    have hcs := hc _ x hx
    have c0 := hcs 0 _ rfl
    simp only [Nat.mul_one, Nat.add_zero] at c0
    have hf : roundL l i = x := by unfold roundL; rw [if_neg h0, List.getD_eq_getElem?_getD, hx]; rfl
    have hxb := hb x (List.mem_of_getElem? hx)
    have hmod : (i : Int) % (l.length : Int) = ((i % l.length : Nat) : Int) := by simp
    have h0' : ((l.length : Int) == 0) = false := by simpa using h0
    have hpos : (0 : Int) < (l.length : Int) := by omega
    have htm : (i : Int).tmod (l.length : Int) = ((i % l.length : Nat) : Int) := by rw [Int.tmod_eq_emod_of_nonneg (by omega)]; exact hmod
    generalize i % l.length = m at *
    have HF := Lib.hid hf
    clear hf
    have HX := Lib.hid hx
    clear hx
    clear hcs hc hp hrow hb h0
    go_enter Tryz.func16, Tryz.ntmps16
    go_wp2_with fail
    go_ret
    exact ⟨by rw [HF.out]; rfl, exq⟩
set_option maxHeartbeats 1000000 in
theorem l11_has_any (l : List Int) (v : Value) (n : Int) (w : World) (hrow : IsRow (fun x : Int => [.int .i64 x]) 1 w v l) (hn : l.length ≤ 1000000) :
    Calls Tryz.prog 19 #[v, .int .i64 n] w fun e w' => e = .returned (.bool (decide (n ∈ l))) ∧ w.Exts w' := by
  obtain ⟨p, b, o, cap, rfl, hm, hp, hc⟩ := hrow.ex
  have HQ := Lib.hid hp
  clear hp
  have HC := Lib.hid hc
  clear hc
  clear hrow
  obtain ⟨R, hR⟩ : ∃ r, decide (n ∈ l) = r := ⟨_, rfl⟩
  rw [hR]
  have HR := Lib.hid hR
  clear hR
  go_enter Tryz.func19, Tryz.ntmps19
  go_wp2_with fail
  go_loopw [6, 9] (fun _ i wr => ∃ t : Nat, t ≤ l.length ∧ i = .int .i64 t ∧ Hid (n ∉ l.take t) ∧ w.Exts wr) (fun _ i _ => l.length - (intOf i).toNat)
  case atStart => exact ⟨0, Nat.zero_le _, rfl, Lib.hid (by simp), World.Exts.refl _⟩
  case round =>
    obtain ⟨t, ht, rfl, hno, X3, rfl⟩ := hrel
    rcases Nat.lt_or_ge t l.length with hlt | hge
    · obtain ⟨rfl, hl⟩ := HQ.out (by omega)
      obtain ⟨z, hz⟩ := some_of_lt hlt
      have c0 := HC.out t z hz 0 _ rfl
      simp only [Nat.mul_one, Nat.add_zero] at c0
      have w1 : (t : Int) < (l.length : Int) := by omega
      have hst := take_snoc hz
      have hzm := List.mem_of_getElem? hz
      clear hz HC HQ
      by_cases hzn : z = n
      · subst hzn
        have hyes : true = R := by rw [← HR.out]; simp [hzm]
        subst hyes
        clear hst hzm hno
        go_wp2_with fail
        go_ret
        exact ⟨rfl, exq⟩
      · have z1 : (z == n) = false := beq_eq_false_iff_ne.2 hzn
        have hnew : n ∉ l.take (t + 1) := by
          rw [hst]
          intro hm
          rcases List.mem_append.1 hm with hm | hm
          · exact hno.out hm
          · exact hzn (List.mem_singleton.1 hm).symm
        have HNEW := Lib.hid hnew
        clear hnew
        clear hst hzm hno
        go_wp2_with fail
        go_roundw
        case rel => exact ⟨t + 1, by omega, by go_num, HNEW, exq⟩
        case measure => simp [intOf]; omega
    · have w1 : ¬ (t : Int) < (l.length : Int) := by omega
      have hyes : false = R := by
        rw [← HR.out]
        have h1 := hno.out
        rw [List.take_of_length_le hge] at h1
        simp [h1]
      subst hyes
      clear hno
      go_wp2_with fail
      go_ret
      exact ⟨rfl, exq⟩
end Go.Proofs.YtkgchngaganokaaGreatDoor
