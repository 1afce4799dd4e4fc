/-
  Regions: the head in any order, then the tail.
-/
import Derived.Test.YtejfaifipdhecaaEng22
set_option linter.unusedVariables false
set_option linter.unusedSimpArgs false
namespace Go.Lg
open Go.RowKit

theorem count_lt {α : Type} {p q : α → Bool} : ∀ {l : List α}, (∀ x ∈ l, q x = true → p x = true) → (∃ x ∈ l, p x = true ∧ q x = false) → (l.filter q).length < (l.filter p).length
  | [], _, ⟨x, hx, _⟩ => by simp at hx
  | y :: l, h, ⟨x, hx, h1, h2⟩ => by
    have hle : (l.filter q).length ≤ (l.filter p).length := by
      clear hx h1 h2
      induction l with
      | nil => simp
      | cons z l ih =>
        have ih := ih fun x hx => h x (by simp only [List.mem_cons] at hx ⊢; rcases hx with h | h <;> simp [h])
        have hz := h z (by simp)
        simp only [List.filter_cons]
        cases hq : q z with
        | true => rw [hz hq]; simpa using ih
        | false => cases p z <;> simp <;> omega
    simp only [List.filter_cons]
    rcases List.mem_cons.1 hx with rfl | hx
    · rw [h1, h2]; simp; omega
    · have ih := count_lt (p := p) (q := q) (l := l) (fun x hx => h x (List.mem_cons_of_mem _ hx)) ⟨x, hx, h1, h2⟩
      cases hq : q y with
      | true => rw [h y (by simp) hq]; simpa using ih
      | false => cases p y <;> simp <;> omega

section
variable {P : Program} {ops : Array Oper} {Q : Exit → Act → World → Prop}

def unlisted (ops : Array Oper) (listed : Array Bool) : Nat := ((List.range ops.size).filter fun i => !listed.getD i false).length

theorem unlisted_set {listed : Array Bool} {i : Nat} (hi : i < ops.size) (hs : listed.size = ops.size) (hl : listed.getD i false = false) : unlisted ops (listed.setIfInBounds i true) < unlisted ops listed := by
  refine count_lt (fun j _ h => ?_) ⟨i, List.mem_range.2 hi, by simpa using hl, by simp [hs, hi]⟩
  by_cases hij : i = j
  · subst hij; simp [hs, hi] at h
  · rwa [getD_set_ne false hij] at h

/-- The tail, one after the other. -/
theorem tail_any {n : Nat} {X : List Nat} (hok : headOk ops n X = true) (hch : ops.size ≤ n ∨ Region.chainB .any ops n = true) : ∀ (l : List Oper) (m fuel : Nat) (listed : Array Bool) (a : Act) (w : World), (∀ k, l[k]? = ops[m + k]?) → n ≤ m ∨ ops.size ≤ m → listed.size = ops.size →
    (∀ i, i < ops.size → listed.getD i false = decide (i < m)) → l.length ≤ fuel → wpList P ops Q l a w → wpAny P .any ops Q fuel listed a w
  | [], m, fuel, listed, a, w, hl, hm, hs, hL, hf, h => by
    have hsz : ops.size ≤ m := Nat.not_lt.1 fun hlt => by have := hl 0; simp [hlt] at this
    refine wpAny_done ?_ h fuel
    rw [List.eq_nil_iff_forall_not_mem]
    intro j hj
    obtain ⟨h0, o, ho, _⟩ := mem_ready.1 hj
    have hjs := (Array.getElem?_eq_some_iff.1 ho).1
    have := hL j hjs
    rw [getD_both h0] at this
    simp at this
    omega
  | o :: l, m, fuel, listed, a, w, hl, hm, hs, hL, hf, h => by
    have ho : ops[m]? = some o := by simpa using (hl 0).symm
    have hms : m < ops.size := (Array.getElem?_eq_some_iff.1 ho).1
    have hnm : n ≤ m := hm.resolve_right (by omega)
    obtain ⟨fuel, rfl⟩ : ∃ f, fuel = f + 1 := ⟨fuel - 1, by simp only [List.length_cons] at hf; omega⟩
    have hready : m ∈ Region.ready .any ops listed := by
      refine mem_ready.2 ⟨getD_in (by omega) (by rw [hL m hms]; simp), o, ho, fun e he hb => ?_⟩
      have := drawOk_back hok ho e he hb
      rw [hL e.on (by omega)]
      simpa using this
    refine ⟨fun h0 => (by rw [h0] at hready; cases hready), fun j hj => ?_⟩
    obtain ⟨h0, oj, hoj, hdep⟩ := mem_ready.1 hj
    have hjs := (Array.getElem?_eq_some_iff.1 hoj).1
    have hjm : j = m := by
      have h1 := hL j hjs
      rw [getD_both h0] at h1
      simp only [Bool.false_eq, decide_eq_false_iff_not] at h1
      rcases Nat.lt_or_ge m j with hlt | hge
      · rcases hch with hch | hch
        · omega
        · have := List.all_eq_true.1 hch j (List.mem_range.2 hjs)
          simp only [Bool.or_eq_true, decide_eq_true_eq] at this
          rcases this with h2 | h2
          · omega
          · obtain ⟨o', ho', e, he, hb, hon⟩ := Region.waitsFor_spec h2
            rw [hoj] at ho'
            obtain rfl := Option.some.inj ho'
            have := hdep e he hb
            rw [hon, hL (j - 1) (by omega)] at this
            simp at this
            omega
      · omega
    subst hjm
    have hw : wpOp P ops Q j (wpList P ops Q l) a w := by unfold wpOp; simp only [ho]; exact h
    refine wpOp_mono (fun a' w' h' => ?_) hw
    refine tail_any hok hch l (j + 1) fuel _ a' w' (fun k => by have := hl (k + 1); simpa [Nat.add_assoc, Nat.add_comm 1 k] using this) (.inl (by omega)) (by simp [hs]) (fun i hi => ?_) (by simp only [List.length_cons] at hf; omega) h'
    by_cases hij : j = i
    · subst hij; simp [hs, hi]
    · rw [getD_set_ne false hij, hL i hi]
      by_cases h3 : i < j
      · simp [h3]; omega
      · have : ¬ i < j + 1 := by omega
        simp [h3, this]

theorem tailX_waits {n : Nat} {X : List Nat} {listed : Array Bool} (hs : sinkX ops n X = true) (hc : upB ops n = true) (hn : n < ops.size) (inv : HeadInv .any ops n listed) (hXl : ∀ i, has i X = true → listed.getD i false = true) :
    ∀ (d i : Nat), n - i = d → i < n → listed.getD i true = false → ∀ t, n ≤ t → t ∉ Region.ready .any ops listed := by
  intro d
  induction d using Nat.strongRecOn with
  | _ d ih =>
    intro i hd hi hun t ht hr
    obtain ⟨_, ot, hot, hall⟩ := mem_ready.1 hr
    have htlt : t < ops.size := (Array.getElem?_eq_some_iff.1 hot).1
    by_cases htn : t = n
    · subst htn
      have h1 := List.all_eq_true.1 hs i (List.mem_range.2 hi)
      rw [Bool.or_eq_true] at h1
      rcases h1 with h1 | h1
      · have := hXl i h1
        rw [getD_both hun] at this
        cases this
      · obtain ⟨j, hj, hj2⟩ := List.any_eq_true.1 h1
        simp only [Bool.and_eq_true] at hj2
        rw [Nat.blt_eq] at hj2
        obtain ⟨oj, hoj, e, he, hb, hon⟩ := Region.waitsFor_spec hj2.2
        have hjle : j ≤ t := by have := List.mem_range.1 hj; omega
        by_cases hjt : j = t
        · subst hjt
          have : oj = ot := Option.some.inj (hoj.symm.trans hot)
          subst this
          have h2 := hall e he hb
          rw [hon, getD_both hun] at h2
          cases h2
        · cases hl : listed.getD j false with
          | true =>
            have h2 := inv.closed j oj hoj hl e he hb
            rw [hon, getD_both hun] at h2
            cases h2
          | false =>
            have hjs : j < listed.size := by rw [inv.size]; omega
            exact ih (t - j) (by omega) j rfl (by omega) (getD_in hjs hl) t (Nat.le_refl _) hr
    · have h1 := List.all_eq_true.1 hc t (List.mem_range.2 htlt)
      simp only [Bool.or_eq_true] at h1
      rcases h1 with h1 | h1
      · have := Nat.le_of_ble_eq_true h1; omega
      · simp only [hot, List.any_eq_true, Bool.and_eq_true] at h1
        obtain ⟨e, he, hb, hle⟩ := h1
        have hle := Nat.le_of_ble_eq_true hle
        have h2 := hall e (by simpa using he) hb
        by_cases hlt : e.on < ops.size
        · rw [getD_both (inv.tail e.on hle hlt)] at h2
          cases h2
        · have hsz := inv.size
          rw [Array.getD_eq_getD_getElem?, Array.getElem?_eq_none (by omega)] at h2
          cases h2

theorem head_any {C : Ctx} {tab : List Ent} {base : Env} {es : List Env} {qs : List (Option Pend)} {n : Nat} {w0 : World} {S0 O0 : Nat → Prop} {pl0 : List Value} {X : List Nat} (hok : headOk ops n X = true) (hes : es.length = (ops.toList.take n).length) (hqs : qs.length = es.length)
    (hone : (∀ p, some p ∈ qs → isMake p = true) ∨ ∀ (i j : Nat) (p q : Pend), qs[i]? = some (some p) → qs[j]? = some (some q) → i = j)
    (hX : ∀ i, has i X = true → i < es.length → es[i]? = some [] ∧ qs[i]? = some none)
    (hfacts : ∀ j o e q, has j X = false → ops[j]? = some o → es[j]? = some e → qs[j]? = some q → HFact P C ops tab (onL (fun i => decide (i < j)) 0 es base) (pdL (fun i => decide (i < j)) 0 qs) o e q)
    (hend : ∀ (fuel : Nat) (listed : Array Bool) (a : Act) (w : World), OkW C w0 S0 O0 pl0 ⟨es.reverse.flatten ++ base, tab, []⟩ (qs.filterMap id) a w → listed.size = ops.size → (∀ i, i < ops.size → listed.getD i false = decide (i < n)) → (ops.toList.drop n).length ≤ fuel → wpAny P .any ops Q fuel listed a w) :
    ∀ (fuel : Nat) (listed : Array Bool) (a : Act) (w : World), HeadInv .any ops n listed → (∀ i, has i X = true → listed.getD i false = true) → unlisted ops listed ≤ fuel → Mid C tab base es qs w0 S0 O0 pl0 (fun i => listed.getD i false) a w → wpAny P .any ops Q fuel listed a w := by
  have finish : ∀ (listed : Array Bool) (a : Act) (w : World), (∀ i, i < es.length → listed.getD i false = true) → Mid C tab base es qs w0 S0 O0 pl0 (fun i => listed.getD i false) a w → OkW C w0 S0 O0 pl0 ⟨es.reverse.flatten ++ base, tab, []⟩ (qs.filterMap id) a w := fun listed a w hall hm => by
    have heq : (es.reverse.flatten ++ base : Env) = onL (fun i => decide (i < es.length)) 0 es base := by
      have := onL_take (es := es) (k := 0) (j := es.length) (base := base)
      simpa using this
    have hpd : pdL (fun i => listed.getD i false) 0 qs = qs.filterMap id := pdL_all fun i hi => by rw [Nat.zero_add]; exact hall i (by omega)
    unfold Mid at hm
    rw [hpd] at hm
    obtain ⟨⟨S, pl, hi, hpw⟩, hu⟩ := hm
    have hag : ∀ t, look t (es.reverse.flatten ++ base) = look t (onL (fun i => listed.getD i false) 0 es base) := fun t => by
      rw [heq]
      refine onL_agree (fun i e he _ => ?_) rfl
      have hlt := (List.getElem?_eq_some_iff.1 he).1
      rw [Nat.zero_add, hall i hlt]
      simp [hlt]
    exact ⟨⟨S, pl, ⟨hi.hp, hi.fr, hi.own, hi.fix, hi.fresh, hi.up, hi.sub, fun t v T hl hT => hi.env t v T (by rw [← hag t]; exact hl) hT, hi.size, hi.defers, hi.pend⟩, hpw⟩, fun t v T hl hT => hu t v T (by rw [← hag t]; exact hl) hT⟩
  have hdr : ops.size ≤ n ∨ (sinkX ops n X = true ∧ upB ops n = true) := by
    have := hok
    simp only [headOk, Bool.and_eq_true, Bool.or_eq_true] at this
    rcases this.2 with h | h
    · exact .inl (Nat.le_of_ble_eq_true h)
    · exact .inr h
  intro fuel
  induction fuel with
  | zero =>
    intro listed a w inv hXl hun hm
    have hall : ∀ i, i < ops.size → listed.getD i false = true := fun i hi => by
      cases hb : listed.getD i false with
      | true => rfl
      | false =>
        have : 0 < unlisted ops listed := List.length_pos_of_mem (List.mem_filter.2 ⟨List.mem_range.2 hi, by rw [hb]; rfl⟩)
        omega
    have hsn : ops.size ≤ n := Nat.not_lt.1 fun hlt => by
      have h1 := inv.tail n (Nat.le_refl _) hlt
      have h2 := hall n hlt
      rw [getD_both h1] at h2; cases h2
    exact hend 0 listed a w (finish listed a w (fun i hi => hall i (by rw [hes, List.length_take, Array.length_toList] at hi; omega)) hm) inv.size (fun i hi => by rw [hall i hi]; simp; omega) (by simp; omega)
  | succ fuel ih =>
    intro listed a w inv hXl hun hm
    have hcl : Closed ops fun i => listed.getD i false := fun j o ho hj e he hb => inv.closed j o ho hj e he hb
    by_cases hdone : ∀ i, i < n → i < ops.size → listed.getD i false = true
    · -- the head is done
      have hL : ∀ i, i < ops.size → listed.getD i false = decide (i < n) := fun i hi => by
        by_cases hin : i < n
        · rw [hdone i hin hi]; simp [hin]
        · rw [getD_both (inv.tail i (by omega) hi)]; simp [hin]
      have hlen : (ops.toList.drop n).length ≤ fuel + 1 := by
        refine Nat.le_trans ?_ hun
        have hsub : (List.range ops.size).filter (fun i => !listed.getD i false) = (List.range ops.size).filter fun i => decide (n ≤ i) := List.filter_congr fun i hi => by
          rw [hL i (List.mem_range.1 hi)]
          by_cases h : i < n
          · have h2 : ¬ n ≤ i := by omega
            simp [h, h2]
          · have h2 : n ≤ i := by omega
            simp [h, h2]
        unfold unlisted
        rw [hsub, List.length_drop, Array.length_toList]
        have : ∀ m, ((List.range m).filter fun i => decide (n ≤ i)).length = m - n := by
          intro m
          induction m with
          | zero => simp
          | succ m ih =>
            rw [List.range_succ, List.filter_append, List.length_append, ih]
            by_cases h : n ≤ m
            · simp [h]; omega
            · simp [h]; omega
        rw [this]
        exact Nat.le_refl _
      exact hend (fuel + 1) listed a w (finish listed a w (fun i hi => by rw [hes, List.length_take, Array.length_toList] at hi; exact hdone i (by omega) (by omega)) hm) inv.size hL hlen
    · -- the first of the head that is still to come may come up
      have hex : ∃ i, i < n ∧ i < ops.size ∧ listed.getD i false = false := by
        apply Classical.byContradiction
        intro hno
        refine hdone fun i h1 h2 => ?_
        cases hb : listed.getD i false with
        | true => rfl
        | false => exact absurd ⟨i, h1, h2, hb⟩ hno
      have hleast : ∃ i, (i < n ∧ i < ops.size ∧ listed.getD i false = false) ∧ ∀ j, j < i → listed.getD j false = true := by
        obtain ⟨i, hi⟩ := hex
        induction i using Nat.strongRecOn with
        | _ i ihn =>
          by_cases hj : ∀ j, j < i → listed.getD j false = true
          · exact ⟨i, hi, hj⟩
          · have : ∃ j, j < i ∧ listed.getD j false = false := by
              apply Classical.byContradiction
              intro hno
              refine hj fun j h1 => ?_
              cases hb : listed.getD j false with
              | true => rfl
              | false => exact absurd ⟨j, h1, hb⟩ hno
            obtain ⟨j, h1, h2⟩ := this
            exact ihn j h1 ⟨by omega, by omega, h2⟩
      obtain ⟨i, ⟨hin, his, hil⟩, hbelow⟩ := hleast
      have hiready : i ∈ Region.ready .any ops listed := mem_ready.2 ⟨getD_in (by rw [inv.size]; exact his) hil, ops[i], Array.getElem?_eq_getElem his, fun e he hb => hbelow _ (drawOk_back hok (Array.getElem?_eq_getElem his) e he hb)⟩
      refine ⟨fun h0 => (by rw [h0] at hiready; cases hiready), fun j hj => ?_⟩
      obtain ⟨h0, oj, hoj, hdep⟩ := mem_ready.1 hj
      have hjs := (Array.getElem?_eq_some_iff.1 hoj).1
      have hjn : j < n := by
        rcases hdr with h | ⟨hs, hc⟩
        · omega
        · rcases Nat.lt_or_ge j n with h | h
          · exact h
          · exact absurd hj (tailX_waits hs hc (by omega) inv hXl _ i rfl hin (getD_in (by rw [inv.size]; exact his) hil) j h)
      have hjX : has j X = false := by
        cases hb : has j X with
        | false => rfl
        | true => have := hXl j hb; rw [getD_both h0] at this; cases this
      refine wpOp_mono (fun a' w' h' => ?_) (head_step hok hes hqs hone hX hfacts hcl hoj hjn (hjX) (getD_both h0) hdep (L' := fun q => (listed.setIfInBounds j true).getD q false) (fun q => ?_) hm)
      · exact ih _ a' w' (inv.set hj hjn) (fun i hi => getD_set_true (hXl i hi)) (by have := unlisted_set hjs inv.size (getD_both h0); omega) h'
      · by_cases hq : j = q
        · subst hq; simp [inv.size, hjs]
        · rw [getD_set_ne false hq, if_neg (Ne.symm hq)]

theorem run_int {op : BinOp} {t : TypeId} {x y : Operand} {yt : TypeId} {C : Ctx} {s : St} {a : Act} {w0 : World} {S : Nat → Prop} {pl : List Value} (he : EnvR w0 S s.tab pl s.env a.tmps) {k k' k2 : IntKind} {m m' r : Int}
    (hx : s.av [] x = some (.val (.int k) m)) (hy : s.av [] y = some (.val (.int k') m')) (hb : binary false op (.val (.int k) m) (.val (.int k') m') = some (none, .val (.int k2) r)) (w : World) {d : Option Tmp} {ty : TypeId} {pos : String} {af : Array Edge} {gd : Option (Nat × Bool)} :
    (execOp a.eval ⟨d, .binOp op t x y yt, ty, pos, af, gd⟩).run P w = .ok (.value (.int k2 r)) w := by
  obtain ⟨u, h1, cs, h2, h3⟩ := binary_sound (P := P) (w := w) (S := S) (s := s) (pl := pl) hb (by simp) t (fun h => by cases h) x y (cp := [.int k m]) (cq := [.int k' m']) rfl rfl
  simp only [AV.R, Ty.R] at h2
  subst h2
  have hu : u = .int k2 r := h3
  subst hu
  simp only [execOp, av_int he holds_nil hx, av_int he holds_nil hy]
  have h1' : (do eqGuard op t x y (.int k m) (.int k' m'); binOp op t (.int k m) (.int k' m') : Sem Value).run P w = .ok (.int k2 r) w := h1
  rw [Sem.run_bind, h1']
  simp only [Result.andThen_ok, Sem.run_pure]

/-- An operation that looks at slots alone says the same in whatever world. -/
theorem regOp_sound {C : Ctx} {s : St} {o : Oper} {v : SV} (h : regOp C s o = some v) {w0 : World} {S0 O0 : Nat → Prop} {pl0 : List Value} {a : Act} {w : World} (hok : Ok C w0 S0 O0 pl0 s a w) :
    ∃ u, (∀ w, (execOp a.eval o).run P w = .ok (.value u) w) ∧ ∀ S pl, Inv C w0 S0 O0 pl0 s a w S pl → v.R w S s.tab pl u := by
  obtain ⟨dst, op, ty, pos, af, gd⟩ := o
  unfold regOp at h
  simp only at h
  split at h
  · exact ⟨_, fun w => by simp only [execOp, Sem.run_pure], fun S pl hi => opMove_sound hi.env holds_nil h⟩
  · exact ⟨_, fun w => by simp only [execOp, Sem.run_pure], fun S pl hi => opMove_sound hi.env holds_nil h⟩
  · split at h
    · rename_i hx hy
      split at h
      · rename_i hb
        obtain rfl := Option.some.inj h
        obtain ⟨⟨S, pl, hi⟩, _⟩ := hok
        exact ⟨_, fun w => run_int (C := C) hi.env hx hy hb w, fun _ _ _ => sv_int⟩
      · cases h
    · cases h
  · cases h

theorem pre_any {A : Type} {C : Ctx} {n : Nat} (hsel : Region.noSelect ops = true) {K : St → Option A} {r : A} : ∀ {X L : List Nat} {s : St}, runPre C ops X s K = some r → preOk ops L X = true → (∀ i ∈ X, i < n) →
    ∃ s0, K s0 = some r ∧ s0.pd = s.pd ∧ ∀ {Q : Exit → Act → World → Prop} {w0 : World} {S0 O0 : Nat → Prop} {pl0 : List Value} {a : Act} {w : World} {listed : Array Bool} {fuel : Nat}, (∀ c a w, ¬ Q (.panic c) a w) → Ok C w0 S0 O0 pl0 s a w → HeadInv .any ops n listed → (∀ i, listed.getD i false = has i L) → unlisted ops listed ≤ fuel →
      (∀ (a' : Act) (listed' : Array Bool) (fuel' : Nat), Ok C w0 S0 O0 pl0 s0 a' w → HeadInv .any ops n listed' → (∀ i, listed'.getD i false = (has i X || has i L)) → unlisted ops listed' ≤ fuel' → wpAny P .any ops Q fuel' listed' a' w) → wpAny P .any ops Q fuel listed a w
  | [], L, s, h, _, _ => ⟨s, h, rfl, fun {Q w0 S0 O0 pl0 a w listed fuel} hQ hok inv hL hun H => H a listed fuel hok inv (fun i => by rw [hL]; rfl) hun⟩
  | i :: X, L, s, h, hp, hXn => by
    simp only [runPre] at h
    split at h
    · rename_i o ho
      split at h
      · rename_i v hg hv
        split at h
        · rename_i hd
          simp only [preOk, preOne, ho, Bool.and_eq_true, Bool.not_eq_true', List.all_eq_true, Bool.or_eq_true] at hp
          obtain ⟨⟨⟨hiL, hdep⟩, hap⟩, hrest⟩ := hp
          obtain ⟨s0, hK, hpd0, hgo⟩ := pre_any (n := n) hsel h hrest (fun j hj => hXn j (List.mem_cons_of_mem _ hj))
          refine ⟨s0, hK, hpd0.trans (by cases o.dst <;> rfl), fun {Q w0 S0 O0 pl0 a w listed fuel} hQ hok inv hL hun H => ?_⟩
          have his : i < ops.size := (Array.getElem?_eq_some_iff.1 ho).1
          have hil : listed.getD i false = false := by rw [hL, hiL]
          have hready : i ∈ Region.ready .any ops listed := mem_ready.2 ⟨getD_in (by rw [inv.size]; exact his) hil, o, ho, fun e he hb => by
            rw [hL]
            exact (hdep e (by simpa using he)).resolve_left (by simp [hb])⟩
          obtain ⟨u, hu1, hu2⟩ := regOp_sound (P := P) hv hok
          have hpos : 0 < unlisted ops listed := List.length_pos_of_mem (List.mem_filter.2 ⟨List.mem_range.2 his, by rw [hil]; rfl⟩)
          obtain ⟨fuel, rfl⟩ : ∃ f, fuel = f + 1 := ⟨fuel - 1, by omega⟩
          have hun2 := unlisted_set his inv.size hil
          refine wpAny_first (v := u) ho (Region.noSelect_spec hsel) (fun c a w k => absurd k (hQ c _ w)) fuel listed a w (fun j oj hj hne hlj hnw => ?_) hready (.inl ⟨by simp [Region.wanted, hg], hu1⟩) ?_
          · have hjs := (Array.getElem?_eq_some_iff.1 hj).1
            rcases hap j (List.mem_range.2 hjs) with (h1 | h1) | h1
            · exact absurd (Nat.eq_of_beq_eq_true h1) hne
            · have := hL j
              rw [h1, getD_both hlj] at this
              cases this
            · simp only [hj, Bool.or_eq_true] at h1
              rcases h1 with h1 | h1
              · exact h1
              · simp only [waitsOn, List.any_eq_true, Bool.and_eq_true] at h1
                obtain ⟨e, he, hb, hon⟩ := h1
                exact absurd (Nat.eq_of_beq_eq_true hon) (hnw e (by simpa using he) hb)
          · have hL2 : ∀ j, (listed.setIfInBounds i true).getD j false = has j (i :: L) := fun j => by
              by_cases hij : i = j
              · subst hij; simp [has, inv.size, his]
              · rw [getD_set_ne false hij, hL]
                simp only [has]
                cases hb : Nat.beq i j with
                | true => exact absurd (Nat.eq_of_beq_eq_true hb) hij
                | false => rfl
            refine hgo hQ (hok.put hd (.inl ⟨holds_nil, hu2⟩)) (inv.set hready (hXn i (by simp))) hL2 (by omega) fun a' listed' fuel' h1 h2 h3 h4 => H a' listed' fuel' h1 h2 (fun j => ?_) h4
            rw [h3]
            simp only [has]
            cases Nat.beq i j <;> simp
        · cases h
      · cases h
    · cases h

theorem settle_makes : ∀ {ps : List Pend} {s s' : St}, settle ps s = some s' → ∀ p ∈ ps, isMake p = true
  | [], _, _, _, p, hp => by simp at hp
  | .make d e :: r, s, s', h, p, hp => by
    simp only [settle] at h
    rcases List.mem_cons.1 hp with rfl | hp
    · rfl
    · exact settle_makes h p hp
  | .app _ _ _ _ _ _ :: _, s, s', h, p, hp => by simp [settle] at h

theorem settle_undef {tmps : Array Value} : ∀ {ps : List Pend} {s s' : St}, settle ps s = some s' → UndefR s.env tmps → UndefR s'.env tmps
  | [], s, s', h, hu => by obtain rfl := Option.some.inj h; exact hu
  | .make d e :: r, s, s', h, hu => by
    simp only [settle] at h
    refine settle_undef h fun t v T hl hn => ?_
    simp only [St.put, look_cons] at hl
    split at hl
    · obtain ⟨rfl, rfl⟩ := Prod.mk.inj (Option.some.inj hl)
      exact absurd holds_nil hn
    · exact hu t v T hl hn
  | .app _ _ _ _ _ _ :: _, s, s', h, hu => by simp [settle] at h
  | .upd _ _ _ :: _, s, s', h, hu => by simp [settle] at h

theorem fixUpd_make {all : List Pend} : ∀ {ps : List Pend}, (∀ q ∈ fixUpd all ps, isMake q = true) → ∀ p ∈ ps, isMake p = true
  | [], _, p, hp => by simp at hp
  | .make d e :: r, h, p, hp => by
    rcases List.mem_cons.1 hp with rfl | hp
    · rfl
    · refine fixUpd_make (all := all) (fun q hq => h q ?_) p hp
      simp only [fixUpd]
      split
      · exact hq
      · exact List.mem_cons_of_mem _ hq
  | .upd d0 d e :: r, h, p, hp => by
    rcases List.mem_cons.1 hp with rfl | hp
    · rfl
    · exact fixUpd_make (all := all) (fun q hq => h q (by simp only [fixUpd]; exact List.mem_cons_of_mem _ hq)) p hp
  | .app d i j eid e xs :: r, h, p, hp => by
    rcases List.mem_cons.1 hp with rfl | hp
    · exact absurd (h (.app d i j eid e xs) (by simp [fixUpd])) (by simp [isMake])
    · exact fixUpd_make (all := all) (fun q hq => h q (by simp only [fixUpd]; exact List.mem_cons_of_mem _ hq)) p hp

theorem olds_iff {d : Nat} : ∀ {ps : List Pend}, olds d ps = true ↔ ∃ q ∈ ps, q.old = some d
  | [] => by simp [olds]
  | p :: r => by
    simp only [olds, Bool.or_eq_true, olds_iff (ps := r), List.mem_cons, exists_eq_or_imp]
    refine or_congr ?_ Iff.rfl
    cases p.old with
    | none => simp
    | some d0 =>
      simp only [Option.some.injEq]
      exact ⟨Nat.eq_of_beq_eq_true, fun h => by rw [h]; exact Nat.beq_refl d⟩

/-- Where it comes from. -/
def FixM (all ps : List Pend) (q : Pend) : Prop :=
  (∃ d e, q = .make d e ∧ .make d e ∈ ps ∧ olds d all = false) ∨ (∃ d0 d e, q = .make d e ∧ .upd d0 d e ∈ ps) ∨ (∃ d i j eid, ∃ (e : Ty) (xs : List e.T), q = .app d i j eid e xs)

theorem FixM.up {all ps : List Pend} {x q : Pend} (h : FixM all ps q) : FixM all (x :: ps) q := by
  rcases h with ⟨d, e, h1, h2, h3⟩ | ⟨d0, d, e, h1, h2⟩ | h
  · exact .inl ⟨d, e, h1, List.mem_cons_of_mem _ h2, h3⟩
  · exact .inr (.inl ⟨d0, d, e, h1, List.mem_cons_of_mem _ h2⟩)
  · exact .inr (.inr h)

theorem fixUpd_mem {all : List Pend} : ∀ {ps : List Pend} {q : Pend}, q ∈ fixUpd all ps → FixM all ps q
  | [], q, h => by simp [fixUpd] at h
  | .make d e :: r, q, h => by
    simp only [fixUpd] at h
    split at h
    · exact (fixUpd_mem h).up
    · rename_i ho
      rcases List.mem_cons.1 h with rfl | h
      · exact .inl ⟨d, e, rfl, by simp, ho⟩
      · exact (fixUpd_mem h).up
  | .upd d0 d e :: r, q, h => by
    simp only [fixUpd] at h
    rcases List.mem_cons.1 h with rfl | h
    · exact .inr (.inl ⟨d0, d, e, rfl, by simp⟩)
    · exact (fixUpd_mem h).up
  | .app d i j eid e xs :: r, q, h => by
    simp only [fixUpd] at h
    rcases List.mem_cons.1 h with rfl | h
    · exact .inr (.inr ⟨d, i, j, eid, e, xs, rfl⟩)
    · exact (fixUpd_mem h).up

theorem updOk_spec {all : List Pend} : ∀ {ps : List Pend}, updOk all ps = true → ∀ d0 d e d0' d' e', .upd d0 d e ∈ ps → .upd d0' d' e' ∈ all → d' = d0 → d' = d
  | [], _, _, _, _, _, _, _, h, _, _ => by simp at h
  | .upd a b c :: r, h, d0, d, e, d0', d', e', hm, hm', hd => by
    simp only [updOk, Bool.and_eq_true] at h
    rcases List.mem_cons.1 hm with hm | hm
    · cases hm
      have := List.all_eq_true.1 h.1 _ hm'
      simp only [Bool.or_eq_true, Bool.not_eq_true'] at this
      rcases this with k | k
      · exact absurd hd (Nat.ne_of_beq_eq_false k)
      · exact Nat.eq_of_beq_eq_true k
    · exact updOk_spec h.2 d0 d e d0' d' e' hm hm' hd
  | .make _ _ :: r, h, d0, d, e, d0', d', e', hm, hm', hd => updOk_spec (ps := r) (by simpa [updOk] using h) d0 d e d0' d' e' (by simpa using hm) hm' hd
  | .app _ _ _ _ _ _ :: r, h, d0, d, e, d0', d', e', hm, hm', hd => updOk_spec (ps := r) (by simpa [updOk] using h) d0 d e d0' d' e' (by simpa using hm) hm' hd

theorem PendsW.fix {n0 : Nat} {w : World} {S : Nat → Prop} {tab : List Ent} {pl : List Value} {tmps : Array Value} {ps : List Pend} (h : PendsW n0 w S tab pl tmps ps) (hmk : ∀ p ∈ ps, isMake p = true) (hu : updOk ps ps = true) : PendsR n0 w S tab pl tmps (fixUpd ps ps) := by
  obtain ⟨bs, h1, h2⟩ := h
  have from_ : ∀ q ∈ fixUpd ps ps, ∃ p ∈ ps, p.d = q.d ∧ (∃ d e, q = .make d e) ∧ (PendR n0 w S tab pl tmps (bs p.d) p → PendR n0 w S tab pl tmps (bs q.d) q) ∧ ((p.old = none ∧ olds p.d ps = false) ∨ ∃ d0 e, p = .upd d0 p.d e) := fun q hq => by
    rcases fixUpd_mem hq with ⟨d, e, rfl, h3, h4⟩ | ⟨d0, d, e, rfl, h3⟩ | ⟨d, i, j, eid, e, xs, rfl⟩
    · exact ⟨_, h3, rfl, ⟨_, _, rfl⟩, id, .inl ⟨rfl, h4⟩⟩
    · exact ⟨_, h3, rfl, ⟨_, _, rfl⟩, id, .inr ⟨d0, e, rfl⟩⟩
    · exfalso
      have : ∀ {l : List Pend}, (∀ p ∈ l, isMake p = true) → ∀ q ∈ fixUpd ps l, isMake q = true := by
        intro l
        induction l with
        | nil => intro _ q hq; simp [fixUpd] at hq
        | cons x r ih =>
          intro hx q hq
          have hr := ih fun p hp => hx p (List.mem_cons_of_mem _ hp)
          cases x with
          | make d e =>
            simp only [fixUpd] at hq
            split at hq
            · exact hr q hq
            · rcases List.mem_cons.1 hq with rfl | hq
              · rfl
              · exact hr q hq
          | upd d0 d e =>
            simp only [fixUpd] at hq
            rcases List.mem_cons.1 hq with rfl | hq
            · rfl
            · exact hr q hq
          | app a1 a2 a3 a4 a5 a6 =>
            have := hx (.app a1 a2 a3 a4 a5 a6) (List.mem_cons_self ..)
            cases this
      exact absurd (this hmk _ hq) (by simp [isMake])
  refine ⟨bs, fun q hq => ?_, fun q hq q' hq' b hb hb' => ?_⟩
  · obtain ⟨p, hp, _, _, k, _⟩ := from_ q hq
    exact k (h1 p hp)
  · obtain ⟨p, hp, hd, _, _, k⟩ := from_ q hq
    obtain ⟨p', hp', hd', _, _, k'⟩ := from_ q' hq'
    rw [← hd] at hb
    rw [← hd'] at hb'
    rw [← hd, ← hd']
    -- one that was changed is not among them, but for one in the same slot
    have no : ∀ {p p' : Pend}, p ∈ ps → p' ∈ ps → ((p'.old = none ∧ olds p'.d ps = false) ∨ ∃ d0 e, p' = .upd d0 p'.d e) → p.old = some p'.d → p.d = p'.d := fun {p p'} hp hp' k' ho => by
      rcases k' with ⟨_, k'⟩ | ⟨d0, e, k'⟩
      · have : olds p'.d ps = true := olds_iff.2 ⟨p, hp, ho⟩
        rw [this] at k'; cases k'
      · cases p with
        | upd a b c =>
          simp only [Pend.old, Option.some.injEq] at ho
          have := updOk_spec hu a b c d0 p'.d e hp (k' ▸ hp') ho.symm
          exact this.symm
        | make => cases ho
        | app => cases ho
    rcases h2 p hp p' hp' b hb hb' with h | h | h
    · exact h
    · exact no hp hp' k' h
    · exact (no hp' hp k h).symm
theorem behind_sound {C : Ctx} {ps : List Pend} {s s1 : St} (h : behind ps s = some s1) (hpd : s.pd = []) : ((∀ p ∈ ps, isMake p = true) ∨ ∃ p, ps = [p]) ∧
    ∀ {w0 : World} {S0 O0 : Nat → Prop} {pl0 : List Value} {a : Act} {w : World}, OkW C w0 S0 O0 pl0 s ps a w → Ok C w0 S0 O0 pl0 s1 a w := by
  have withP : ∀ {w0 : World} {S0 O0 : Nat → Prop} {pl0 : List Value} {a : Act} {w : World} {S : Nat → Prop} {pl : List Value} {qs : List Pend}, Inv C w0 S0 O0 pl0 s a w S pl → PendsR w0.heap.size w S s.tab pl a.tmps qs → Inv C w0 S0 O0 pl0 { s with pd := qs } a w S pl := fun hi hp =>
    ⟨hi.hp, hi.fr, hi.own, hi.fix, hi.fresh, hi.up, hi.sub, hi.env, hi.size, hi.defers, hp⟩
  unfold behind at h
  split at h
  · obtain rfl := Option.some.inj h
    refine ⟨.inr ⟨_, rfl⟩, fun {w0 S0 O0 pl0 a w} ⟨⟨S, pl, hi, bs, h1, h2⟩, hu⟩ => ⟨⟨S, pl, withP hi ⟨bs, h1, fun p hp q hq b hb hb' => ?_⟩⟩, hu⟩⟩
    simp only [List.mem_singleton] at hp hq
    rw [hp, hq]
  · split at h
    · rename_i hn
      simp only [Bool.and_eq_true] at hn
      have hmk : ∀ p ∈ ps, isMake p = true := fixUpd_make (settle_makes h)
      refine ⟨.inl hmk, fun {w0 S0 O0 pl0 a w} ⟨⟨S, pl, hi, hpw⟩, hu⟩ => ?_⟩
      obtain ⟨_, pl', hi'⟩ := settle_sound h hn.1 hpd (withP hi (hpw.fix hmk hn.2))
      exact ⟨⟨S, pl', hi'⟩, settle_undef h hu⟩
    · cases h

theorem one_of {qs : List (Option Pend)} : ∀ {p : Pend}, qs.filterMap id = [p] → ∀ (i j : Nat) (p q : Pend), qs[i]? = some (some p) → qs[j]? = some (some q) → i = j := by
  induction qs with
  | nil => intro p h; simp at h
  | cons x qs ih =>
    intro p h i j p1 q1 hi hj
    cases x with
    | none =>
      simp only [List.filterMap_cons, id] at h
      cases i with
      | zero => simp at hi
      | succ i => cases j with
        | zero => simp at hj
        | succ j => rw [ih h i j p1 q1 (by simpa using hi) (by simpa using hj)]
    | some y =>
      simp only [List.filterMap_cons, id, List.cons.injEq] at h
      have hno : ∀ k (q : Pend), qs[k]? ≠ some (some q) := fun k q hk => by
        have : q ∈ qs.filterMap id := List.mem_filterMap.2 ⟨some q, List.mem_of_getElem? hk, rfl⟩
        rw [h.2] at this
        simp at this
      cases i with
      | zero => cases j with
        | zero => rfl
        | succ j => exact absurd (by simpa using hj) (hno j q1)
      | succ i => exact absurd (by simpa using hi) (hno i p1)

theorem has_filter {i : Nat} {X : List Nat} {p : Nat → Bool} (h : has i (X.filter p) = true) : has i X = true ∧ p i = true := by
  have := List.mem_filter.1 (has_iff.1 h)
  exact ⟨has_iff.2 this.1, this.2⟩

theorem headOk_filter {n : Nat} {X : List Nat} (h : headOk ops n X = true) : headOk ops n (X.filter fun i => decide (i < ops.size)) = true := by
  simp only [headOk, Bool.and_eq_true, Bool.or_eq_true] at h ⊢
  refine ⟨h.1, ?_⟩
  by_cases hn : ops.size ≤ n
  · exact .inl (by rw [Nat.ble_eq]; exact hn)
  · refine h.2.imp id fun ⟨h1, h2⟩ => ⟨?_, h2⟩
    simp only [sinkX, List.all_eq_true, Bool.or_eq_true] at h1 ⊢
    intro i hi
    have hlt : i < ops.size := by have := List.mem_range.1 hi; omega
    rcases h1 i hi with h | h
    · exact .inl (has_iff.2 (List.mem_filter.2 ⟨has_iff.1 h, by simp [hlt]⟩))
    · exact .inr h

/-- The operations of the head come up in whatever order. -/
theorem phase {A : Type} {C : Ctx} (hT : thOk P C = true) (hS : Sigs P C) {n : Nat} {X : List Nat} (hok : headOk ops n X = true) {s0 : St} (hpd0 : s0.pd = []) {K2 : St → List Pend → Option A} {r : A} (h0 : runFree C ops (headL X (ops.toList.take n) 0) s0 [] K2 = some r)
    (hone : ∀ st ps, K2 st ps = some r → st.pd = [] → (∀ p ∈ ps, isMake p = true) ∨ ∃ p, ps = [p]) : ∃ st ps, K2 st ps = some r ∧ st.pd = [] ∧ ∀ {Q : Exit → Act → World → Prop} {w0 : World} {S0 O0 : Nat → Prop} {pl0 : List Value},
      (∀ (fuel : Nat) (listed : Array Bool) (a : Act) (w : World), OkW C w0 S0 O0 pl0 st ps a w → listed.size = ops.size → (∀ i, i < ops.size → listed.getD i false = decide (i < n)) → (ops.toList.drop n).length ≤ fuel → wpAny P .any ops Q fuel listed a w) →
      ∀ (fuel : Nat) (listed : Array Bool) (a : Act) (w : World), Ok C w0 S0 O0 pl0 s0 a w → HeadInv .any ops n listed → (∀ i, i < ops.size → listed.getD i false = has i X) → unlisted ops listed ≤ fuel → wpAny P .any ops Q fuel listed a w := by
  obtain ⟨es, qs, h1, h1', h2, h3, h4⟩ := runFree_facts hT hS h0
  rw [headL_length] at h1 h1'
  simp only [List.nil_append] at h2 h3
  have hone' : (∀ p, some p ∈ qs → isMake p = true) ∨ ∀ (i j : Nat) (p q : Pend), qs[i]? = some (some p) → qs[j]? = some (some q) → i = j := by
    rcases hone _ _ h2 hpd0 with h | ⟨p, h⟩
    · exact .inl fun p hp => h p (List.mem_filterMap.2 ⟨some p, hp, rfl⟩)
    · exact .inr (one_of h)
  refine ⟨_, _, h2, hpd0, fun {Q w0 S0 O0 pl0} hend fuel' listed' a' w k1 k2 k3 k4 => ?_⟩
  have hlen : ∀ {i : Nat} {e : Env}, es[i]? = some e → i < ops.size ∧ i < n := fun {i e} he => by
    have hlt := (List.getElem?_eq_some_iff.1 he).1
    rw [h1, List.length_take, Array.length_toList] at hlt
    omega
  have hXe : ∀ i, has i X = true → i < es.length → es[i]? = some [] ∧ qs[i]? = some none := fun i hi hlt => h4 i (by
    rw [h1] at hlt
    rw [headL_get, List.getElem?_eq_getElem hlt, Option.map_some, Nat.zero_add, if_pos hi])
  have hXl : ∀ i, has i X = true → i < ops.size → listed'.getD i false = true := fun i hi hlt => by rw [k3 i hlt]; exact hi
  have hend' : ∀ (fuel : Nat) (listed : Array Bool) (a : Act) (w : World), OkW C w0 S0 O0 pl0 ⟨es.reverse.flatten ++ s0.env, s0.tab, []⟩ (qs.filterMap id) a w → listed.size = ops.size → (∀ i, i < ops.size → listed.getD i false = decide (i < n)) → (ops.toList.drop n).length ≤ fuel → wpAny P .any ops Q fuel listed a w := by
    have : ({ s0 with env := es.reverse.flatten ++ s0.env } : St) = ⟨es.reverse.flatten ++ s0.env, s0.tab, []⟩ := by rw [← hpd0]
    rw [← this]
    exact hend
  refine head_any (C := C) (tab := s0.tab) (base := s0.env) (es := es) (qs := qs) (w0 := w0) (S0 := S0) (O0 := O0) (pl0 := pl0) (X := X.filter fun i => decide (i < ops.size)) (headOk_filter hok) h1 (h1'.trans h1.symm) hone' (fun i hi hlt => hXe i (has_filter hi).1 hlt) (fun j o e q hjX ho he hq => ?_) hend' fuel' listed' a' _ k2 (fun i hi => hXl i (has_filter hi).1 (by have := (has_filter hi).2; simpa using this)) k4 ?_
  · have hlt := hlen he
    have hjX' : has j X = false := by
      cases hb : has j X with
      | false => rfl
      | true =>
        have : has j (X.filter fun i => decide (i < ops.size)) = true := has_iff.2 (List.mem_filter.2 ⟨has_iff.1 hb, by simp [hlt.1]⟩)
        rw [this] at hjX; cases hjX
    have := h3 j o e q (by rw [headL_get, List.getElem?_take_of_lt (by omega), Array.getElem?_toList, ho, Option.map_some, Nat.zero_add, hjX']; rfl) he hq
    have heq := onL_take (es := es) (k := 0) (j := j) (base := s0.env)
    have heq2 := pdL_take (qs := qs) (k := 0) (j := j)
    rw [heq, ← heq2] at this
    simp only [Nat.zero_add] at this
    exact this
  · show OkW C w0 S0 O0 pl0 ⟨onL (fun i => listed'.getD i false) 0 es s0.env, s0.tab, []⟩ (pdL (fun i => listed'.getD i false) 0 qs) a' _
    have hag : ∀ t, look t (onL (fun i => listed'.getD i false) 0 es s0.env) = look t s0.env := fun t => by
      have : look t (onL (fun i => listed'.getD i false) 0 es s0.env) = look t (onL (fun _ => false) 0 es s0.env) := onL_agree (fun i e he hn => by
        rw [Nat.zero_add, k3 i (hlen he).1]
        cases hb : has i X with
        | false => rfl
        | true =>
          have := (hXe i hb (List.getElem?_eq_some_iff.1 he).1).1
          rw [he] at this
          obtain rfl := Option.some.inj this
          exact absurd rfl hn) rfl
      rw [this, onL_none fun _ _ => rfl]
    have hpdn : pdL (fun i => listed'.getD i false) 0 qs = [] := by
      rw [List.eq_nil_iff_forall_not_mem]
      intro p hp
      obtain ⟨i, g1, g2⟩ := mem_pdL.1 hp
      have hilt : i < ops.size := by
        have := (List.getElem?_eq_some_iff.1 g1).1
        rw [h1', List.length_take, Array.length_toList] at this
        omega
      rw [Nat.zero_add, k3 i hilt] at g2
      have := (hXe i g2 (by have := (List.getElem?_eq_some_iff.1 g1).1; omega)).2
      rw [g1] at this
      cases this
    rw [hpdn]
    obtain ⟨⟨S, pl, hi⟩, hu⟩ := k1
    exact ⟨⟨S, pl, ⟨hi.hp, hi.fr, hi.own, hi.fix, hi.fresh, hi.up, hi.sub, fun t v T hl hT => hi.env t v T (by rw [← hag t]; exact hl) hT, hi.size, hi.defers, PendsR.nil rfl⟩, PendsW.nil⟩, fun t v T hl hT => hu t v T (by rw [← hag t]; exact hl) hT⟩

/-- What is thought of as first. -/
theorem begin_any {A : Type} {C : Ctx} {n : Nat} {X : List Nat} (hok : drawOk ops n X = true) {s : St} {K : St → Option A} {r : A} (hpd : s.pd = []) (h : runPre C ops X s K = some r) :
    ∃ s0, K s0 = some r ∧ s0.pd = [] ∧ ∀ {Q : Exit → Act → World → Prop} {w0 : World} {S0 O0 : Nat → Prop} {pl0 : List Value} {a : Act} {w : World}, (∀ c a w, ¬ Q (.panic c) a w) → Ok C w0 S0 O0 pl0 s a w →
      (∀ (fuel' : Nat) (listed' : Array Bool) (a' : Act), Ok C w0 S0 O0 pl0 s0 a' w → HeadInv .any ops n listed' → (∀ i, i < ops.size → listed'.getD i false = has i X) → unlisted ops listed' ≤ fuel' → wpAny P .any ops Q fuel' listed' a' w) → wpAny P .any ops Q ops.size (Array.replicate ops.size false) a w := by
  have inv0 : HeadInv .any ops n (Array.replicate ops.size false) := ⟨by simp, fun j oj _ hl => (by rw [getD_replicate_false] at hl; cases hl), fun t _ ht => getD_in (by simpa using ht) (getD_replicate_false _ _)⟩
  have hun0 : unlisted ops (Array.replicate ops.size false) ≤ ops.size := by
    unfold unlisted
    exact Nat.le_trans (List.length_filter_le _ _) (by simp)
  cases X with
  | nil =>
    simp only [runPre] at h
    exact ⟨s, h, hpd, fun {Q w0 S0 O0 pl0 a w} _ hok' H => H _ _ a hok' inv0 (fun i _ => by rw [getD_replicate_false]; rfl) hun0⟩
  | cons x X =>
    have hx := hok
    simp only [drawOk, Bool.and_eq_true] at hx
    obtain ⟨_, ⟨hsel, hpo⟩, hlt⟩ := hx
    have hlt' : ∀ i ∈ (x :: X), i < n := fun i hi => by have := List.all_eq_true.1 hlt i hi; rwa [Nat.blt_eq] at this
    obtain ⟨s0, hK, hpd0, hgo⟩ := pre_any (P := P) (n := n) hsel h hpo hlt'
    exact ⟨s0, hK, hpd0.trans hpd, fun {Q w0 S0 O0 pl0 a w} hQ hok' H => hgo hQ hok' inv0 (fun i => by rw [getD_replicate_false]; rfl) hun0 fun a' listed' fuel' h1 h2 h3 h4 => H fuel' listed' a' h1 h2 (fun i _ => by rw [h3]; simp [has]) h4⟩

theorem Ok.drew {C : Ctx} {w0 : World} {S0 O0 : Nat → Prop} {pl0 : List Value} {s : St} {a : Act} {w : World} (hok' : Ok C w0 S0 O0 pl0 s a w) : Ok C w0 S0 O0 pl0 s a { w with drawn := w.drawn + 1 } := by
  obtain ⟨⟨S, pl, hi⟩, hu⟩ := hok'
  have hall : ∀ b, S b → b < w.heap.size → S b ∧ ({ w with drawn := w.drawn + 1 } : World).heap[b]? = w.heap[b]? := fun b hb _ => ⟨hb, rfl⟩
  exact ⟨⟨S, pl, hi.hp.grow (fun b hb => hb) hi.hp.stable hi.hp.off (fun b _ => rfl), hi.fr.step (Fr.drew w (fun _ => False)) (fun b k => k.elim), hi.own, hi.fix, hi.fresh, hi.up, hi.sub, hi.env.keep hall hi.hp.stable (fun i => Keep.refl _ _ i), hi.size, hi.defers, hi.pend.keep hi.hp (fun b _ => rfl) (Nat.le_refl _) (fun b hb => hb) (fun b hb => .inl hb) (fun _ _ => rfl)⟩, hu⟩

theorem region_leads {A : Type} {C : Ctx} (hT : thOk P C = true) (hS : Sigs P C) (hm : P.follows .mixedOrders = true) {n id : Nat} {X : List Nat} (hok : drawOk ops n X = true) (hch : ops.size ≤ n ∨ Region.chainB .any ops n = true) {s : St} {K : St → Option A} {r : A} (hpd : s.pd = [])
    (h : (runPre C ops X s fun s0 => runFree C ops (headL X (ops.toList.take n) 0) s0 [] fun s' ps => match behind ps s' with | some s1 => runOps C ops (ops.toList.drop n) s1 K | none => none) = some r) : ∃ s', K s' = some r ∧ Leads P C s s' fun Q => (Code.region id ops true).wp P Q := by
  have hhead : headOk ops n X = true := by simp only [drawOk, Bool.and_eq_true] at hok; exact hok.1
  obtain ⟨s0, h0, hpd0, hgo⟩ := begin_any (P := P) hok hpd h
  obtain ⟨st, ps, h2, hst, hph⟩ := phase hT hS hhead hpd0 h0 (fun st ps h hst => by
    split at h
    · rename_i s1 hbh; exact (behind_sound (C := C) hbh hst).1
    · cases h)
  split at h2
  case h_2 => cases h2
  rename_i s1 hbh
  obtain ⟨s', hK, hl⟩ := runOps_leads hT hS h2
  refine ⟨s', hK, fun w0 S0 O0 pl0 a w hok' Q hQp hQ => ?_⟩
  refine wp_region_any hm (hgo hQp hok'.drew fun fuel' listed' a' k1 k2 k3 k4 => ?_)
  refine hph (fun fuel listed a w hk hs hL hf => ?_) fuel' listed' a' _ k1 k2 k3 k4
  exact tail_any hhead hch (ops.toList.drop n) n fuel listed a w (fun k => by rw [List.getElem?_drop, Array.getElem?_toList]) (.inl (Nat.le_refl _)) hs hL hf (hl w0 S0 O0 pl0 a w ((behind_sound hbh hst).2 hk) Q hQp hQ)

/-- Two heads with one operation between them. -/
theorem region_leads2 {A : Type} {C : Ctx} (hT : thOk P C = true) (hS : Sigs P C) (hm : P.follows .mixedOrders = true) {n id : Nat} {X : List Nat} (hok : drawOk ops n X = true) (hok2 : headOk ops ops.size (List.range (n + 1)) = true) {s : St} {K : St → Option A} {r : A} (hpd : s.pd = [])
    (h : (runPre C ops X s fun s0 => runFree C ops (headL X (ops.toList.take n) 0) s0 [] fun s' ps => match behind ps s' with
      | some s1 => runOps C ops ((ops.toList.drop n).take 1) s1 fun s2 => match s2.pd with
        | [] => runFree C ops (headL (List.range (n + 1)) ops.toList 0) s2 [] fun s3 ps3 => match ps3 with
          | [] => K s3
          | _ :: _ => none
        | _ :: _ => none
      | none => none) = some r) : ∃ s', K s' = some r ∧ Leads P C s s' fun Q => (Code.region id ops true).wp P Q := by
  have hhead : headOk ops n X = true := by simp only [drawOk, Bool.and_eq_true] at hok; exact hok.1
  obtain ⟨s0, h0, hpd0, hgo⟩ := begin_any (P := P) hok hpd h
  obtain ⟨st, ps, h2, hst, hph⟩ := phase hT hS hhead hpd0 h0 (fun st ps h hst => by
    split at h
    · rename_i s1 hbh; exact (behind_sound (C := C) hbh hst).1
    · cases h)
  split at h2
  case h_2 => cases h2
  rename_i s1 hbh
  have phase2 : ∀ {s2 : St}, (match s2.pd with
        | [] => runFree C ops (headL (List.range (n + 1)) ops.toList 0) s2 [] fun s3 ps3 => match ps3 with
          | [] => K s3
          | _ :: _ => none
        | _ :: _ => none) = some r → ∃ s', K s' = some r ∧ ∀ {Q : Exit → Act → World → Prop} {w0 : World} {S0 O0 : Nat → Prop} {pl0 : List Value}, (∀ a' w', Ok C w0 S0 O0 pl0 s' a' w' → Q .normal a' w') →
          ∀ (fuel : Nat) (listed : Array Bool) (a : Act) (w : World), Ok C w0 S0 O0 pl0 s2 a w → listed.size = ops.size → (∀ i, i < ops.size → listed.getD i false = decide (i < n + 1)) → (ops.toList.drop (n + 1)).length ≤ fuel → wpAny P .any ops Q fuel listed a w := by
    intro s2 h3
    split at h3
    case h_2 => cases h3
    rename_i hpd2
    have htake : ops.toList.take ops.size = ops.toList := List.take_of_length_le (by simp)
    obtain ⟨st3, ps3, h4, hst3, hph3⟩ := phase (n := ops.size) hT hS hok2 hpd2 (by rw [htake]; exact h3) (fun st ps h hst => by
      split at h
      · exact .inl fun p hp => by simp at hp
      · cases h)
    split at h4
    case h_2 => cases h4
    refine ⟨st3, h4, fun {Q w0 S0 O0 pl0} hQ fuel listed a w hok' hs hL hf => ?_⟩
    have hback := hok2
    have inv : HeadInv .any ops ops.size listed := ⟨hs, fun j oj hj hl e he hb => by
      have hjs := (Array.getElem?_eq_some_iff.1 hj).1
      have hlt := drawOk_back hback hj e he hb
      rw [hL j hjs] at hl
      rw [hL e.on (by omega)]
      simp only [decide_eq_true_eq] at hl ⊢
      omega, fun t h1 h2 => by omega⟩
    have hun : unlisted ops listed ≤ fuel := by
      refine Nat.le_trans ?_ hf
      have hsub : (List.range ops.size).filter (fun i => !listed.getD i false) = (List.range ops.size).filter fun i => decide (n + 1 ≤ i) := List.filter_congr fun i hi => by
        rw [hL i (List.mem_range.1 hi)]
        by_cases h : i < n + 1
        · have h2 : ¬ n + 1 ≤ i := by omega
          simp [h, h2]
        · have h2 : n + 1 ≤ i := by omega
          simp [h, h2]
      unfold unlisted
      rw [hsub, List.length_drop, Array.length_toList]
      have : ∀ m, ((List.range m).filter fun i => decide (n + 1 ≤ i)).length = m - (n + 1) := by
        intro m
        induction m with
        | zero => simp
        | succ m ih =>
          rw [List.range_succ, List.filter_append, List.length_append, ih]
          by_cases h : n + 1 ≤ m
          · simp [h]; omega
          · simp [h]; omega
      exact Nat.le_of_eq (this _)
    refine hph3 (fun fuel2 listed2 a2 w2 hk hs2 hL2 hf2 => ?_) fuel listed a w hok' inv (fun i hi => ?_) hun
    · refine wpAny_done ?_ (hQ a2 w2 (by
        obtain ⟨⟨S, pl, hi, _⟩, hu⟩ := hk
        exact ⟨⟨S, pl, hi⟩, hu⟩)) fuel2
      rw [List.eq_nil_iff_forall_not_mem]
      intro j hj
      obtain ⟨h0, o, ho, _⟩ := mem_ready.1 hj
      have hjs := (Array.getElem?_eq_some_iff.1 ho).1
      have := hL2 j hjs
      rw [getD_both h0] at this
      simp at this
      omega
    · rw [hL i hi]
      cases hb : has i (List.range (n + 1)) with
      | true => have := has_iff.1 hb; simp at this; simp; omega
      | false => have := has_false hb; simp at this; simp; omega
  cases hon : ops[n]? with
  | none =>
    have hsz : ops.size ≤ n := by
      rcases Nat.lt_or_ge n ops.size with hlt | hge
      · rw [Array.getElem?_eq_getElem hlt] at hon; cases hon
      · exact hge
    have hd : (ops.toList.drop n).take 1 = [] := by rw [List.drop_of_length_le (by simp; omega)]; rfl
    rw [hd] at h2
    simp only [runOps] at h2
    obtain ⟨s', hK, hp2⟩ := phase2 h2
    refine ⟨s', hK, fun w0 S0 O0 pl0 a w hok' Q hQp hQ => ?_⟩
    refine wp_region_any hm (hgo hQp hok'.drew fun fuel' listed' a' k1 k2 k3 k4 => ?_)
    refine hph (fun fuel listed a w hk hs hL hf => ?_) fuel' listed' a' _ k1 k2 k3 k4
    refine hp2 hQ fuel listed a w ((behind_sound hbh hst).2 hk) hs (fun i hi => ?_) ?_
    · rw [hL i hi]; simp only [decide_eq_decide]; omega
    · rw [List.drop_of_length_le (by simp; omega)]; simp
  | some o =>
    have hns : n < ops.size := (Array.getElem?_eq_some_iff.1 hon).1
    have hd : (ops.toList.drop n).take 1 = [o] := by
      rw [List.drop_eq_getElem_cons (by simpa using hns)]
      have := (Array.getElem?_eq_some_iff.1 hon).2
      simp [this]
    rw [hd] at h2
    simp only [runOps] at h2
    split at h2
    case h_2 => cases h2
    rename_i G hp
    split at h2
    case h_2 => cases h2
    rename_i hdst
    obtain ⟨s2, h3, hgoes⟩ := step_goes hT hS hp hdst h2
    obtain ⟨s', hK, hp2⟩ := phase2 h3
    refine ⟨s', hK, fun w0 S0 O0 pl0 a w hok' Q hQp hQ => ?_⟩
    refine wp_region_any hm (hgo hQp hok'.drew fun fuel' listed' a' k1 k2 k3 k4 => ?_)
    refine hph (fun fuel listed a w hk hs hL hf => ?_) fuel' listed' a' _ k1 k2 k3 k4
    have hlen : 0 < (ops.toList.drop n).length := by simp; omega
    obtain ⟨fuel, rfl⟩ : ∃ f, fuel = f + 1 := ⟨fuel - 1, by omega⟩
    have hup : ∀ j, j ∈ Region.ready .any ops listed → j = n := fun j hj => by
      obtain ⟨g0, oj, hoj, hdep⟩ := mem_ready.1 hj
      have hjs := (Array.getElem?_eq_some_iff.1 hoj).1
      have hjn : n ≤ j := by
        have := hL j hjs
        rw [getD_both g0] at this
        simp at this; omega
      rcases Nat.lt_or_ge n j with hlt | hge
      · exfalso
        have hup : ops.size ≤ n ∨ upB ops n = true := by
          have := hhead
          simp only [headOk, Bool.and_eq_true, Bool.or_eq_true] at this
          exact this.2.imp (fun h => Nat.le_of_ble_eq_true h) (fun h => h.2)
        rcases hup with hup | hup
        · omega
        · have h1 := List.all_eq_true.1 hup j (List.mem_range.2 hjs)
          simp only [Bool.or_eq_true] at h1
          rcases h1 with h1 | h1
          · have := Nat.le_of_ble_eq_true h1; omega
          · simp only [hoj, List.any_eq_true, Bool.and_eq_true] at h1
            obtain ⟨e, he, hb, hle⟩ := h1
            have hle := Nat.le_of_ble_eq_true hle
            have h2 := hdep e (by simpa using he) hb
            have hlt2 := drawOk_back hhead hoj e (by simpa using he) hb
            have h3 := hL e.on (by omega)
            rw [h2] at h3
            simp at h3; omega
      · omega
    have hready : n ∈ Region.ready .any ops listed := mem_ready.2 ⟨getD_in (by rw [hs]; exact hns) (by rw [hL n hns]; simp), o, hon, fun e he hb => by
      have := drawOk_back hhead hon e he hb
      rw [hL e.on (by omega)]; simp [this]⟩
    refine ⟨fun h0 => (by rw [h0] at hready; cases hready), fun j hj => ?_⟩
    obtain rfl := hup j hj
    have := hgoes w0 S0 O0 pl0 a w ((behind_sound hbh hst).2 hk) (fun a' w' => wpAny P .any ops Q fuel (listed.setIfInBounds j true) a' w') Q fun a' w' hok2 => hp2 hQ fuel (listed.setIfInBounds j true) a' w' hok2 (by simp [hs]) (fun i hi => ?_) ?_
    · unfold wpOp
      simp only [hon]
      split
      · rename_i hb; rw [if_pos hb] at this; exact .inl this
      · rename_i hb; rw [if_neg hb] at this; exact this
    · by_cases hij : j = i
      · subst hij; simp [hs, hi]
      · rw [getD_set_ne false hij, hL i hi]
        simp only [decide_eq_decide]; omega
    · simp only [List.length_drop] at hf ⊢; omega

end
end Go.Lg
