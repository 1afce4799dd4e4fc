/-
  Nil slices of boxes turned into owned rows without elements.
-/
import Derived.Test.YtejfaifipdhecaaEng4
set_option linter.unusedVariables false
set_option linter.unusedSimpArgs false
namespace Go.Lg
open Go.RowKit

theorem Keep.trans {tab tab' tab'' : List Ent} {pl pl' pl'' : List Value} {i : Nat} (h : Keep tab pl tab' pl' i) (k : Keep tab' pl' tab'' pl'' i) : Keep tab pl tab'' pl'' i :=
  ⟨fun hv h' => k.pl hv (h.pl hv h'), fun eid e xs h' => by
    obtain ⟨xs', k1, k2⟩ := h.arr eid e xs h'
    obtain ⟨xs'', k3, k4⟩ := k.arr eid e xs' k1
    exact ⟨xs'', k3, by omega⟩, fun c h' => (by
    obtain ⟨c', k1⟩ := h.box c h'
    exact k.box c' k1), fun a b c d h' => by
    obtain ⟨x', k1⟩ := h.rows a b c d h'
    exact k.rows a b c x' k1⟩


section
variable {C : Ctx} {w0 : World} {S0 O0 : Nat → Prop} {pl0 : List Value} {a : Act} {w : World} {S : Nat → Prop}

/-- What waits may be forgotten. -/
theorem Inv.drop {s : St} {pl : List Value} (hi : Inv C w0 S0 O0 pl0 s a w S pl) : Inv C w0 S0 O0 pl0 ⟨s.env, s.tab, []⟩ a w S pl :=
  ⟨hi.hp, hi.fr, hi.own, hi.fix, hi.fresh, hi.up, hi.sub, hi.env, hi.size, hi.defers, PendsR.nil rfl⟩

/-- A nil slice as an owned row without elements. -/
theorem Inv.push_nil {env : Env} {tab : List Ent} {pl : List Value} (hi : Inv C w0 S0 O0 pl0 ⟨env, tab, []⟩ a w S pl) (eid : TypeId) (e : Ty) :
    Inv C w0 S0 O0 pl0 ⟨env, tab ++ [.arr eid e []], []⟩ a w S (pl ++ [.slice none 0 0]) ∧ (∀ i, Keep tab pl (tab ++ [.arr eid e []]) (pl ++ [.slice none 0 0]) i) ∧
      (AV.own tab.length).R w S (tab ++ [.arr eid e []]) (pl ++ [.slice none 0 0]) [.slice none 0 0] := by
  have hlen := hi.hp.len
  have hp' : Hp w S (tab ++ [.arr eid e []]) (pl ++ [.slice none 0 0]) := hi.hp.push ⟨[], ⟨by simp, .inl ⟨rfl, rfl⟩⟩, ⟨rfl, fun i cs x h => by simp at h⟩⟩ (fun b _ hb => by simp [blks, blk] at hb)
  have hown : ∀ i b, Own (tab ++ [.arr eid e []]) (pl ++ [.slice none 0 0]) i b → Own tab pl i b := fun i b ho => by
    rcases (own_push hlen).1 ho with h | ⟨_, _, h⟩
    · exact h
    · simp [blks, blk] at h
  have hk := fun i => Keep.push hlen (.arr eid e []) (.slice none 0 0) i
  have hS : ∀ b, S b → b < w.heap.size → S b ∧ w.heap[b]? = w.heap[b]? := fun b hb _ => ⟨hb, rfl⟩
  exact ⟨⟨hp', hi.fr, fun i b ho => hi.own i b (hown i b ho), fun i hif hv h => (hk i).pl hv (hi.fix i hif hv h), fun i b hm ho => hi.fresh i b hm (hown i b ho), hi.up, hi.sub, hi.env.keep hS hi.hp.stable hk, hi.size, hi.defers, PendsR.nil rfl⟩, hk,
    ⟨eid, e, [], .slice none 0 0, by simp, by simp [← hlen], ⟨_, _, _, rfl⟩, rfl⟩⟩

/-- A box's content may be told otherwise. -/
theorem Inv.rebox {env : Env} {tab : List Ent} {pl : List Value} (hi : Inv C w0 S0 O0 pl0 ⟨env, tab, []⟩ a w S pl) {i : Nat} {c c' : AV} (hc : tab[i]? = some (.box c)) (hr : ∀ (b : Nat) (cs : List Value) (eid : TypeId), pl[i]? = some (.pointer (some ⟨b, 0, none⟩)) → w.heap[b]? = some (.cells cs.toArray eid (0, 0)) → c'.R w S tab pl cs) :
    Inv C w0 S0 O0 pl0 ⟨env, setAt i (.box c') tab, []⟩ a w S pl ∧ ∀ j, Keep tab pl (setAt i (.box c') tab) pl j := by
  have hS : ∀ b, S b → b < w.heap.size → S b ∧ w.heap[b]? = w.heap[b]? := fun b hb _ => ⟨hb, rfl⟩
  have hk : ∀ j, Keep tab pl (setAt i (.box c') tab) pl j := fun j => by
    by_cases hj : j = i
    · subst hj
      have hs := setAt_self (e := .box c') hc
      refine ⟨fun _ h => h, fun eid e xs h => ?_, fun a _ => ⟨_, hs⟩, fun eid0 eid e xss h => ?_⟩
      · rw [hc] at h; cases h
      · rw [hc] at h; cases h
    · have hs := setAt_ne (e := .box c') (l := tab) hj
      exact ⟨fun _ h => h, fun eid e xs h => ⟨xs, by rw [hs]; exact h, rfl⟩, fun a h => ⟨a, by rw [hs]; exact h⟩, fun eid0 eid e xss h => ⟨xss, by rw [hs]; exact h⟩⟩
  have hown : ∀ j b, Own (setAt i (.box c') tab) pl j b ↔ Own tab pl j b := fun j b => by
    by_cases hj : j = i
    · subst hj
      constructor
      · rintro ⟨e, hv, h1, h2, h3, h4⟩; exact ⟨_, hv, hc, rfl, h3, h4⟩
      · rintro ⟨e, hv, h1, h2, h3, h4⟩; exact ⟨_, hv, setAt_self hc, rfl, h3, h4⟩
    · constructor
      · rintro ⟨e, hv, h1, h2, h3, h4⟩; rw [setAt_ne hj] at h1; exact ⟨e, hv, h1, h2, h3, h4⟩
      · rintro ⟨e, hv, h1, h2, h3, h4⟩; exact ⟨e, hv, by rw [setAt_ne hj]; exact h1, h2, h3, h4⟩
  have hp : Hp w S (setAt i (.box c') tab) pl := by
    refine ⟨by rw [length_setAt]; exact hi.hp.len, fun j e hv he hpv => ?_, fun j j' b h1 h2 => hi.hp.inj j j' b ((hown j b).1 h1) ((hown j' b).1 h2), hi.hp.stable, fun j b h => hi.hp.off j b ((hown j b).1 h)⟩
    by_cases hj : j = i
    · subst hj
      rw [setAt_self hc] at he
      obtain rfl := Option.some.inj he
      obtain ⟨b, cs, eid, h1, h2, h3⟩ := hi.hp.ent j _ hv hc hpv
      exact ⟨b, cs, eid, h1, h2, AV.R.keep hS hi.hp.stable hk (hr b cs eid (by rw [hpv, h1]) h2)⟩
    · rw [setAt_ne hj] at he
      have h := hi.hp.ent j e hv he hpv
      cases e with
      | arr eid e xs => exact h
      | box c2 =>
        obtain ⟨b, cs, eid, h1, h2, h3⟩ := h
        exact ⟨b, cs, eid, h1, h2, AV.R.keep hS hi.hp.stable hk h3⟩
      | rows eid0 eid e xss => exact h
      | dead => exact h
  exact ⟨⟨hp, hi.fr, fun j b h => hi.own j b ((hown j b).1 h), hi.fix, fun j b hm h => hi.fresh j b hm ((hown j b).1 h), hi.up, hi.sub, hi.env.keep hS hi.hp.stable hk, hi.size, hi.defers, PendsR.nil rfl⟩, hk⟩

theorem mats_push : ∀ (c : AV) {env : Env} {tab : List Ent} {pl : List Value}, Inv C w0 S0 O0 pl0 ⟨env, tab, []⟩ a w S pl →
    ∃ pl', Inv C w0 S0 O0 pl0 ⟨env, tab ++ (c.mats tab.length).2, []⟩ a w S pl' ∧ (∀ i, Keep tab pl (tab ++ (c.mats tab.length).2) pl' i) ∧ ∀ cs, c.R w S tab pl cs → (c.mats tab.length).1.R w S (tab ++ (c.mats tab.length).2) pl' cs := by
  have hS : ∀ b, S b → b < w.heap.size → S b ∧ w.heap[b]? = w.heap[b]? := fun b hb _ => ⟨hb, rfl⟩
  have same : ∀ (c : AV) {env : Env} {tab : List Ent} {pl : List Value}, Inv C w0 S0 O0 pl0 ⟨env, tab, []⟩ a w S pl → (∀ n, c.mats n = (c, [])) →
      ∃ pl', Inv C w0 S0 O0 pl0 ⟨env, tab ++ (c.mats tab.length).2, []⟩ a w S pl' ∧ (∀ i, Keep tab pl (tab ++ (c.mats tab.length).2) pl' i) ∧ ∀ cs, c.R w S tab pl cs → (c.mats tab.length).1.R w S (tab ++ (c.mats tab.length).2) pl' cs := by
    intro c env tab pl hi hc
    rw [hc]
    exact ⟨pl, by rw [List.append_nil]; exact hi, fun i => by rw [List.append_nil]; exact Keep.refl _ _ i, fun cs h => by rw [List.append_nil]; exact h⟩
  intro c
  induction c with
  | nsl eid e =>
    intro env tab pl hi
    obtain ⟨h1, h2, h3⟩ := hi.push_nil eid e
    refine ⟨_, h1, h2, fun cs h => ?_⟩
    simp only [AV.R] at h
    subst h
    exact h3
  | pr x y ihx ihy =>
    intro env tab pl hi
    obtain ⟨pl1, h1, k1, r1⟩ := ihx hi
    obtain ⟨pl2, h2, k2, r2⟩ := ihy h1
    rw [List.length_append, List.append_assoc] at h2 k2 r2
    have hk : ∀ i, Keep tab pl (tab ++ ((x.mats tab.length).2 ++ (y.mats (tab.length + (x.mats tab.length).2.length)).2)) pl2 i := fun i => (k1 i).trans (k2 i)
    refine ⟨pl2, h2, hk, fun cs h => ?_⟩
    simp only [AV.R] at h
    obtain ⟨c1, c2, rfl, hx, hy⟩ := h
    simp only [AV.mats, AV.R]
    refine ⟨c1, c2, rfl, AV.R.keep hS h1.hp.stable k2 (r1 c1 hx), r2 c2 (AV.R.keep hS hi.hp.stable k1 hy)⟩
  | _ => intro env tab pl hi; exact same _ hi fun n => rfl

theorem mats_at {env : Env} {tab : List Ent} {pl : List Value} (hi0 : Inv C w0 S0 O0 pl0 ⟨env, tab, []⟩ a w S pl) {i : Nat} {c : AV} (hc : tab[i]? = some (.box c)) :
    ∃ pl', Inv C w0 S0 O0 pl0 ⟨env, setAt i (.box (c.mats tab.length).1) (tab ++ (c.mats tab.length).2), []⟩ a w S pl' ∧ ∀ j, Keep tab pl (setAt i (.box (c.mats tab.length).1) (tab ++ (c.mats tab.length).2)) pl' j := by
  obtain ⟨pl1, hi1, hk1, hr1⟩ := mats_push c hi0
  have hc1 : (tab ++ (c.mats tab.length).2)[i]? = some (.box c) := by
    rw [List.getElem?_append_left (List.getElem?_eq_some_iff.1 hc).1]; exact hc
  have hback : ∀ (b : Nat) (cs : List Value) (eid : TypeId), pl1[i]? = some (.pointer (some ⟨b, 0, none⟩)) → w.heap[b]? = some (.cells cs.toArray eid (0, 0)) → (c.mats tab.length).1.R w S (tab ++ (c.mats tab.length).2) pl1 cs := fun b cs eid hb hh => by
    obtain ⟨hv0, hp0, b0, cs0, eid0, e1, e2, e3⟩ := hi0.hp.pl hc
    have := (hk1 i).pl _ hp0
    rw [hb, e1] at this
    simp only [Option.some.injEq, Value.pointer.injEq, Addr.mk.injEq, and_true] at this
    subst this
    rw [e2] at hh
    simp only [Option.some.injEq, Obj.cells.injEq, List.toArray_inj] at hh
    have hcs : cs0 = cs := by simpa using congrArg Array.toList hh.1
    rw [← hcs]
    exact hr1 cs0 e3
  obtain ⟨hi2, hk2⟩ := hi1.rebox hc1 hback
  exact ⟨pl1, hi2, fun j => (hk1 j).trans (hk2 j)⟩

theorem matsAt_sound : ∀ (l : List Nat) {env : Env} {tab : List Ent} {pl : List Value}, Inv C w0 S0 O0 pl0 ⟨env, tab, []⟩ a w S pl → ∃ pl', Inv C w0 S0 O0 pl0 ⟨env, matsAt l tab, []⟩ a w S pl' ∧ ∀ j, Keep tab pl (matsAt l tab) pl' j
  | [], env, tab, pl, hi => ⟨pl, hi, fun j => Keep.refl _ _ j⟩
  | i :: r, env, tab, pl, hi => by
    unfold matsAt
    split
    · rename_i c hc
      obtain ⟨pl1, h1, k1⟩ := mats_at hi hc
      obtain ⟨pl2, h2, k2⟩ := matsAt_sound r h1
      exact ⟨pl2, h2, fun j => (k1 j).trans (k2 j)⟩
    · exact matsAt_sound r hi

end
end Go.Lg
