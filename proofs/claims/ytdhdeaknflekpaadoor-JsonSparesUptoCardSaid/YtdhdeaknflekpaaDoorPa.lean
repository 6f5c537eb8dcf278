/- Plain laws of parsers: what depends on which part of the text; closed under sequence and choice. -/
import Derived.Test.YtdhdeaknflekpaaDoorMb
namespace Go.Proofs.YtdhdeaknflekpaaDoor.TJ

def ofO {α : Type} : Option α × List UInt8 → R α
  | (some a, l) => .ok a l
  | (none, l) => .no false l
def ofB : Bool × List UInt8 → R Unit
  | (true, l) => .ok () l
  | (false, l) => .no false l
def R.bind {α β : Type} (x : R α) (f : α → List UInt8 → R β) : R β :=
  match x with
  | .ok a l => f a l
  | .no d l => .no d l
/-- blanks alone -/
def Bk (t : List UInt8) : Prop := ∀ c ∈ t, c ∈ sBlank
/-- no byte with which a number may go on or a value begin -/
def stops : List UInt8 := [32, 9, 10, 13, 93, 125, 44]
def Stop (t : List UInt8) : Prop := ∀ c r, t = c :: r → c ∈ stops
theorem Bk.stop {t : List UInt8} (h : Bk t) : Stop t := by
  rintro c r rfl
  have := h c (by simp)
  exact (show ∀ c ∈ sBlank, c ∈ stops by decide) c this
theorem Bk.tail {c : UInt8} {t : List UInt8} (h : Bk (c :: t)) : Bk t := fun d hd => h d (by simp [hd])

structure Strong {α : Type} (P : List UInt8 → R α) : Prop where
  e : ∀ {l a r}, P l = .ok a r → ∃ x, l = x ++ r ∧ ∀ t, P (x ++ t) = .ok a t
  n : ∀ {l d r}, P l = .no d r → ∃ x, l = x ++ r
  d : ∀ {l r}, P l = .no true r → r ≠ []
  f1 : ∀ {l d r}, P l = .no d r → r ≠ [] → ∀ t, P (l ++ t) = .no d (r ++ t)
  f2 : ∀ {l d}, P l = .no d [] → ∀ t, Bk t → ∃ r, P (l ++ t) = .no false r ∧ r.length ≤ t.length
structure Good {α : Type} (P : List UInt8 → R α) : Prop where
  s : ∀ {l a r}, P l = .ok a r → ∃ x, l = x ++ r ∧ ∀ y z, r = y ++ z → P (x ++ y) = .ok a y
  s1 : ∀ {l a r}, P l = .ok a r → r ≠ [] → ∀ t, P (l ++ t) = .ok a (r ++ t)
  s2 : ∀ {l a}, P l = .ok a [] → ∀ t, Stop t → P (l ++ t) = .ok a t
  n : ∀ {l d r}, P l = .no d r → ∃ x, l = x ++ r
  d : ∀ {l r}, P l = .no true r → r ≠ []
  f1 : ∀ {l d r}, P l = .no d r → r ≠ [] → ∀ t, P (l ++ t) = .no d (r ++ t)
  f2 : ∀ {l d}, P l = .no d [] → ∀ t, Bk t → ∃ r, P (l ++ t) = .no false r ∧ r.length ≤ t.length
theorem Strong.good {α : Type} {P : List UInt8 → R α} (h : Strong P) : Good P where
  s := fun hp => by
    obtain ⟨x, hx, ht⟩ := h.e hp
    exact ⟨x, hx, fun y _ _ => ht y⟩
  s1 := fun hp _ t => by
    obtain ⟨x, rfl, ht⟩ := h.e hp
    rw [List.append_assoc]; exact ht _
  s2 := fun hp t _ => by
    obtain ⟨x, rfl, ht⟩ := h.e hp
    rw [List.append_assoc]; exact ht _
  n := h.n
  d := h.d
  f1 := h.f1
  f2 := h.f2
theorem Strong.ok {α : Type} (a : α) : Strong (fun l => R.ok a l) where
  e := fun h => by cases h; exact ⟨[], rfl, fun _ => rfl⟩
  n := fun h => by cases h
  d := fun h => by cases h
  f1 := fun h => by cases h
  f2 := fun h => by cases h
theorem Strong.no {α : Type} : Strong (fun l => (R.no false l : R α)) where
  e := fun h => by cases h
  n := fun h => by cases h; exact ⟨[], rfl⟩
  d := fun h => by cases h
  f1 := fun h _ t => by cases h; rfl
  f2 := fun h t _ => by cases h; exact ⟨t, rfl, Nat.le_refl _⟩
theorem Strong.bind {α β : Type} {P : List UInt8 → R α} {Q : α → List UInt8 → R β} (hP : Strong P) (hQ : ∀ a, Strong (Q a)) : Strong (fun l => (P l).bind Q) where
  e := by
    intro l b r h
    try dsimp only at h
    cases hp : P l with
    | no d r1 => rw [hp] at h; cases h
    | ok a r1 =>
      rw [hp] at h
      obtain ⟨x, rfl, hx⟩ := hP.e hp
      obtain ⟨y, rfl, hy⟩ := (hQ a).e h
      refine ⟨x ++ y, by simp, fun t => ?_⟩
      show (P (x ++ y ++ t)).bind Q = _
      rw [List.append_assoc, hx]
      exact hy t
  n := by
    intro l d r h
    try dsimp only at h
    cases hp : P l with
    | no d' r1 => rw [hp] at h; cases h; exact hP.n hp
    | ok a r1 =>
      rw [hp] at h
      obtain ⟨x, rfl, hx⟩ := hP.e hp
      obtain ⟨y, rfl⟩ := (hQ a).n h
      exact ⟨x ++ y, by simp⟩
  d := by
    intro l r h
    try dsimp only at h
    cases hp : P l with
    | no d' r1 => rw [hp] at h; cases h; exact hP.d hp
    | ok a r1 => rw [hp] at h; exact (hQ a).d h
  f1 := by
    intro l d r h hr t
    try dsimp only at h
    try dsimp only
    cases hp : P l with
    | no d' r1 => rw [hp] at h; cases h; rw [hP.f1 hp hr t]; rfl
    | ok a r1 =>
      rw [hp] at h
      rw [(hP.good).s1 hp (by
        intro e; subst e
        obtain ⟨x, hx⟩ := (hQ a).n h
        exact hr (by cases x with | nil => exact hx.symm | cons _ _ => cases hx)) t]
      exact (hQ a).f1 h hr t
  f2 := by
    intro l d h t ht
    try dsimp only at h
    try dsimp only
    cases hp : P l with
    | no d' r1 => rw [hp] at h; cases h; obtain ⟨r, h1, h2⟩ := hP.f2 hp t ht; exact ⟨r, by rw [h1]; rfl, h2⟩
    | ok a r1 =>
      rw [hp] at h
      obtain ⟨x, rfl, hx⟩ := hP.e hp
      rw [List.append_assoc, hx]
      exact (hQ a).f2 h t ht
theorem Good.bind {α β : Type} {P : List UInt8 → R α} {Q : α → List UInt8 → R β} (hP : Good P) (hQ : ∀ a, Good (Q a)) : Good (fun l => (P l).bind Q) where
  s := by
    intro l b r h
    try dsimp only at h
    cases hp : P l with
    | no d r1 => rw [hp] at h; cases h
    | ok a r1 =>
      rw [hp] at h
      obtain ⟨x, rfl, hx⟩ := hP.s hp
      obtain ⟨y, rfl, hy⟩ := (hQ a).s h
      refine ⟨x ++ y, by simp, fun u z hu => ?_⟩
      show (P (x ++ y ++ u)).bind Q = _
      rw [List.append_assoc, hx (y ++ u) z (by rw [hu]; simp)]
      exact hy u z hu
  s1 := by
    intro l b r h hr t
    try dsimp only at h
    try dsimp only
    cases hp : P l with
    | no d r1 => rw [hp] at h; cases h
    | ok a r1 =>
      rw [hp] at h
      rw [hP.s1 hp (by
        intro e; subst e
        obtain ⟨x, hx, -⟩ := (hQ a).s h
        exact hr (by cases x with | nil => exact hx.symm | cons _ _ => cases hx)) t]
      exact (hQ a).s1 h hr t
  s2 := by
    intro l b h t ht
    try dsimp only at h
    try dsimp only
    cases hp : P l with
    | no d r1 => rw [hp] at h; cases h
    | ok a r1 =>
      rw [hp] at h
      by_cases e : r1 = []
      · subst e
        rw [hP.s2 hp t ht]
        have := (hQ a).s2 h t ht
        exact this
      · rw [hP.s1 hp e t]
        exact (hQ a).s2 h t ht
  n := by
    intro l d r h
    try dsimp only at h
    cases hp : P l with
    | no d' r1 => rw [hp] at h; cases h; exact hP.n hp
    | ok a r1 =>
      rw [hp] at h
      obtain ⟨x, rfl, hx⟩ := hP.s hp
      obtain ⟨y, rfl⟩ := (hQ a).n h
      exact ⟨x ++ y, by simp⟩
  d := by
    intro l r h
    try dsimp only at h
    cases hp : P l with
    | no d' r1 => rw [hp] at h; cases h; exact hP.d hp
    | ok a r1 => rw [hp] at h; exact (hQ a).d h
  f1 := by
    intro l d r h hr t
    try dsimp only at h
    try dsimp only
    cases hp : P l with
    | no d' r1 => rw [hp] at h; cases h; rw [hP.f1 hp hr t]; rfl
    | ok a r1 =>
      rw [hp] at h
      rw [hP.s1 hp (by
        intro e; subst e
        obtain ⟨x, hx⟩ := (hQ a).n h
        exact hr (by cases x with | nil => exact hx.symm | cons _ _ => cases hx)) t]
      exact (hQ a).f1 h hr t
  f2 := by
    intro l d h t ht
    try dsimp only at h
    try dsimp only
    cases hp : P l with
    | no d' r1 => rw [hp] at h; cases h; obtain ⟨r, h1, h2⟩ := hP.f2 hp t ht; exact ⟨r, by rw [h1]; rfl, h2⟩
    | ok a r1 =>
      rw [hp] at h
      by_cases e : r1 = []
      · subst e
        rw [hP.s2 hp t ht.stop]
        have := (hQ a).f2 h t ht
        exact this
      · rw [hP.s1 hp e t]
        exact (hQ a).f2 h t ht
theorem has_app {s l t : List UInt8} (h : l ≠ []) : has s (l ++ t) = has s l := by cases l <;> simp_all [has]
theorem tail_app {l t : List UInt8} (h : l ≠ []) : (l ++ t).tail = l.tail ++ t := by cases l <;> simp_all
theorem has_nil {s : List UInt8} : has s [] = false := rfl
theorem has_ne {s l : List UInt8} (h : has s l = true) : l ≠ [] := by rintro rfl; cases h
theorem has_blank {s t : List UInt8} (hs : ∀ c ∈ sBlank, c ∉ s) (h : Bk t) : has s t = false := by
  cases t with
  | nil => rfl
  | cons c r =>
    have := hs c (h c (by simp))
    simpa [has] using this
theorem has_bk {s t : List UInt8} (hs : ∀ c ∈ stops, c ∉ s) (h : Stop t) : has s t = false := by
  cases t with
  | nil => rfl
  | cons c r =>
    have := hs c (h c r rfl)
    simpa [has] using this
/-- one of these bytes, then P; else Q, from where it stands -/
def opt {α : Type} (s : List UInt8) (P Q : List UInt8 → R α) (l : List UInt8) : R α := if has s l then P l.tail else Q l
theorem Good.opt {α : Type} {s : List UInt8} {P Q : List UInt8 → R α} (hb : ∀ c ∈ sBlank, c ∉ s) (hq : (∀ c ∈ stops, c ∉ s) ∨ ∀ a r, Q [] ≠ .ok a r) (hP : Good P) (hQ : Good Q) : Good (opt s P Q) where
  s := by
    intro l a r h
    unfold TJ.opt at h
    by_cases hh : has s l = true
    · rw [if_pos hh] at h
      obtain ⟨x, hx, hy⟩ := hP.s h
      cases l with
      | nil => cases hh
      | cons c l =>
        simp only [List.tail_cons] at hx
        subst hx
        refine ⟨c :: x, rfl, fun y z hz => ?_⟩
        unfold TJ.opt
        rw [if_pos (by simpa [has] using hh)]
        exact hy y z hz
    · rw [if_neg hh] at h
      obtain ⟨x, rfl, hy⟩ := hQ.s h
      refine ⟨x, rfl, fun y z hz => ?_⟩
      unfold TJ.opt
      rw [if_neg, hy y z hz]
      subst hz
      cases x with
      | nil =>
        cases y with
        | nil => simp [has]
        | cons c y => simpa [has] using hh
      | cons c x => simpa [has] using hh
  s1 := by
    intro l a r h hr t
    unfold TJ.opt at h ⊢
    have hl : l ≠ [] := by
      rintro rfl
      rw [if_neg (by simp [has])] at h
      obtain ⟨x, hx, -⟩ := hQ.s h
      exact hr (by cases x with | nil => exact hx.symm | cons _ _ => cases hx)
    rw [has_app hl, tail_app hl]
    split at h
    · rw [if_pos ‹_›]; exact hP.s1 h hr t
    · rw [if_neg ‹_›]; exact hQ.s1 h hr t
  s2 := by
    intro l a h t ht
    unfold TJ.opt at h ⊢
    by_cases hl : l = []
    · subst hl
      rw [if_neg (by simp [has])] at h
      have hs := hq.resolve_right fun H => H _ _ h
      rw [List.nil_append, if_neg (by rw [has_bk hs ht]; simp)]
      exact hQ.s2 h t ht
    · rw [has_app hl, tail_app hl]
      split at h
      · rw [if_pos ‹_›]; exact hP.s2 h t ht
      · rw [if_neg ‹_›]; exact hQ.s2 h t ht
  n := by
    intro l d r h
    unfold TJ.opt at h
    split at h
    · obtain ⟨x, hx⟩ := hP.n h
      cases l with
      | nil => exact ⟨x, hx⟩
      | cons c l => exact ⟨c :: x, by simp only [List.tail_cons] at hx; rw [hx]; rfl⟩
    · exact hQ.n h
  d := by
    intro l r h
    unfold TJ.opt at h
    split at h
    · exact hP.d h
    · exact hQ.d h
  f1 := by
    intro l d r h hr t
    unfold TJ.opt at h ⊢
    have hl : l ≠ [] := by
      rintro rfl
      rw [if_neg (by simp [has])] at h
      obtain ⟨x, hx⟩ := hQ.n h
      exact hr (by cases x with | nil => exact hx.symm | cons _ _ => cases hx)
    rw [has_app hl, tail_app hl]
    split at h
    · rw [if_pos ‹_›]; exact hP.f1 h hr t
    · rw [if_neg ‹_›]; exact hQ.f1 h hr t
  f2 := by
    intro l d h t ht
    unfold TJ.opt at h ⊢
    by_cases hl : l = []
    · subst hl
      rw [if_neg (by simp [has])] at h
      rw [List.nil_append, if_neg (by rw [has_blank hb ht]; simp)]
      exact hQ.f2 h t ht
    · rw [has_app hl, tail_app hl]
      split at h
      · rw [if_pos ‹_›]; exact hP.f2 h t ht
      · rw [if_neg ‹_›]; exact hQ.f2 h t ht
theorem Strong.opt {α : Type} {s : List UInt8} {P Q : List UInt8 → R α} (hb : ∀ c ∈ sBlank, c ∉ s) (hP : Strong P) (hQ : Strong Q) (h0 : ∀ a r, Q [] ≠ .ok a r) : Strong (opt s P Q) :=
  { Good.opt hb (.inr h0) hP.good hQ.good with
    e := by
      intro l a r h
      unfold TJ.opt at h
      by_cases hh : has s l = true
      · rw [if_pos hh] at h
        obtain ⟨x, hx, hy⟩ := hP.e h
        cases l with
        | nil => cases hh
        | cons c l =>
          simp only [List.tail_cons] at hx
          subst hx
          refine ⟨c :: x, rfl, fun t => ?_⟩
          unfold TJ.opt
          rw [if_pos (by simpa [has] using hh)]
          exact hy t
      · rw [if_neg hh] at h
        obtain ⟨x, rfl, hy⟩ := hQ.e h
        refine ⟨x, rfl, fun t => ?_⟩
        unfold TJ.opt
        have hx : x ≠ [] := by
          rintro rfl
          exact h0 _ _ (hy [])
        rw [has_app hx, ← has_app (t := r) hx, if_neg hh, hy t] }
/-- P where it stands, if one of these bytes is there; else Q -/
def alt {α : Type} (s : List UInt8) (P Q : List UInt8 → R α) (l : List UInt8) : R α := if has s l then P l else Q l
theorem Good.alt {α : Type} {s : List UInt8} {P Q : List UInt8 → R α} (hs : ∀ c ∈ stops, c ∉ s) (hP : Good P) (hP0 : ∀ a r, P [] ≠ .ok a r) (hQ : Good Q) : Good (alt s P Q) where
  s := by
    intro l a r h
    unfold TJ.alt at h
    by_cases hh : has s l = true
    · rw [if_pos hh] at h
      obtain ⟨x, rfl, hy⟩ := hP.s h
      refine ⟨x, rfl, fun y z hz => ?_⟩
      have hx : x ≠ [] := by
        rintro rfl
        exact hP0 _ _ (hy [] r rfl)
      unfold TJ.alt
      rw [has_app hx, ← has_app (t := r) hx, if_pos hh]
      exact hy y z hz
    · rw [if_neg hh] at h
      obtain ⟨x, rfl, hy⟩ := hQ.s h
      refine ⟨x, rfl, fun y z hz => ?_⟩
      unfold TJ.alt
      rw [if_neg, hy y z hz]
      subst hz
      cases x with
      | nil =>
        cases y with
        | nil => simp [has]
        | cons c y => simpa [has] using hh
      | cons c x => simpa [has] using hh
  s1 := by
    intro l a r h hr t
    unfold TJ.alt at h ⊢
    have hl : l ≠ [] := by
      rintro rfl
      rw [if_neg (by simp [has])] at h
      obtain ⟨x, hx, -⟩ := hQ.s h
      exact hr (by cases x with | nil => exact hx.symm | cons _ _ => cases hx)
    rw [has_app hl]
    split at h
    · rw [if_pos ‹_›]; exact hP.s1 h hr t
    · rw [if_neg ‹_›]; exact hQ.s1 h hr t
  s2 := by
    intro l a h t ht
    unfold TJ.alt at h ⊢
    by_cases hl : l = []
    · subst hl
      rw [if_neg (by simp [has])] at h
      rw [List.nil_append, if_neg (by rw [has_bk hs ht]; simp)]
      exact hQ.s2 h t ht
    · rw [has_app hl]
      split at h
      · rw [if_pos ‹_›]; exact hP.s2 h t ht
      · rw [if_neg ‹_›]; exact hQ.s2 h t ht
  n := by
    intro l d r h
    unfold TJ.alt at h
    split at h
    · exact hP.n h
    · exact hQ.n h
  d := by
    intro l r h
    unfold TJ.alt at h
    split at h
    · exact hP.d h
    · exact hQ.d h
  f1 := by
    intro l d r h hr t
    unfold TJ.alt at h ⊢
    have hl : l ≠ [] := by
      rintro rfl
      rw [if_neg (by simp [has])] at h
      obtain ⟨x, hx⟩ := hQ.n h
      exact hr (by cases x with | nil => exact hx.symm | cons _ _ => cases hx)
    rw [has_app hl]
    split at h
    · rw [if_pos ‹_›]; exact hP.f1 h hr t
    · rw [if_neg ‹_›]; exact hQ.f1 h hr t
  f2 := by
    intro l d h t ht
    unfold TJ.alt at h ⊢
    by_cases hl : l = []
    · subst hl
      rw [if_neg (by simp [has])] at h
      rw [List.nil_append, if_neg (by rw [has_bk hs ht.stop]; simp)]
      exact hQ.f2 h t ht
    · rw [has_app hl]
      split at h
      · rw [if_pos ‹_›]; exact hP.f2 h t ht
      · rw [if_neg ‹_›]; exact hQ.f2 h t ht
theorem blanks_bk {t : List UInt8} (h : Bk t) : blanks t = [] := by
  induction t with
  | nil => rfl
  | cons c t ih =>
    have := h c (by simp)
    unfold blanks at ih ⊢
    rw [List.dropWhile_cons, if_pos (by simpa using this)]
    exact ih h.tail
theorem blanks_split (l : List UInt8) : ∃ x, Bk x ∧ l = x ++ blanks l ∧ (∀ y, blanks (x ++ y) = blanks y) := by
  induction l with
  | nil => exact ⟨[], fun _ h => by simp at h, rfl, fun _ => rfl⟩
  | cons c l ih =>
    obtain ⟨x, h1, h2, h3⟩ := ih
    by_cases hc : c ∈ sBlank
    · refine ⟨c :: x, fun d hd => ?_, ?_, fun y => ?_⟩
      · rcases List.mem_cons.1 hd with rfl | hd
        · exact hc
        · exact h1 d hd
      · unfold blanks at h2 ⊢
        rw [List.dropWhile_cons, if_pos (by simpa using hc), List.cons_append, ← h2]
      · have := h3 y
        unfold blanks at this ⊢
        rw [List.cons_append, List.dropWhile_cons, if_pos (by simpa using hc)]
        exact this
    · refine ⟨[], fun _ h => by simp at h, ?_, fun _ => rfl⟩
      unfold blanks
      rw [List.dropWhile_cons, if_neg (by simpa using hc)]
      rfl
/-- what stands behind blanks does not begin with one -/
theorem blanks_pre {l y z : List UInt8} (h : blanks l = y ++ z) : blanks y = y := by
  cases y with
  | nil => rfl
  | cons c y =>
    have : c ∉ sBlank := by
      intro hc
      have h2 : (blanks l).head? = some c := by rw [h]; rfl
      have h3 := List.head?_dropWhile_not (p := sBlank.contains) l
      unfold blanks at h2
      rw [h2] at h3
      simp at h3
      exact h3 hc
    unfold blanks
    rw [List.dropWhile_cons, if_neg (by simpa using this)]
theorem blanks_app {l t : List UInt8} (h : blanks l ≠ []) : blanks (l ++ t) = blanks l ++ t := by
  obtain ⟨x, h1, h2, h3⟩ := blanks_split l
  have e : blanks (l ++ t) = blanks (blanks l ++ t) := by
    conv => lhs; rw [h2]
    rw [List.append_assoc, h3]
  rw [e]
  have hb : blanks (blanks l) = blanks l := blanks_pre (l := l) (z := []) (by simp)
  revert h hb
  generalize blanks l = u
  intro h hb
  cases u with
  | nil => exact absurd rfl h
  | cons c u =>
    unfold blanks at hb ⊢
    rw [List.dropWhile_cons] at hb
    rw [List.cons_append, List.dropWhile_cons]
    split at hb
    · have := congrArg List.length hb
      have h4 := (List.dropWhile_suffix (p := sBlank.contains) (l := u)).length_le
      simp at this; omega
    · rw [if_neg ‹_›]
theorem blanks_app_nil {l t : List UInt8} (h : blanks l = []) : blanks (l ++ t) = blanks t := by
  obtain ⟨x, h1, h2, h3⟩ := blanks_split l
  rw [h2, h]
  simpa using h3 t
theorem Good.blanks {α : Type} {P : List UInt8 → R α} (hP : Good P) (h0 : ∀ a r, P [] ≠ .ok a r) : Good (fun l => P (blanks l)) where
  s := by
    intro l a r h
    try dsimp only at h
    obtain ⟨x, h1, h2, h3⟩ := blanks_split l
    obtain ⟨y, h4, h5⟩ := hP.s h
    refine ⟨x ++ y, by rw [List.append_assoc, ← h4, ← h2], fun u z hz => ?_⟩
    show P (TJ.blanks (x ++ y ++ u)) = _
    rw [List.append_assoc, h3, blanks_pre (l := l) (y := y ++ u) (z := z) (by rw [h4, hz]; simp)]
    exact h5 u z hz
  s1 := by
    intro l a r h hr t
    try dsimp only at h
    try dsimp only
    have hl : TJ.blanks l ≠ [] := by
      intro e; rw [e] at h; exact h0 _ _ h
    rw [blanks_app hl]
    exact hP.s1 h hr t
  s2 := by
    intro l a h t ht
    try dsimp only at h
    try dsimp only
    have hl : TJ.blanks l ≠ [] := by
      intro e; rw [e] at h; exact h0 _ _ h
    rw [blanks_app hl]
    exact hP.s2 h t ht
  n := by
    intro l d r h
    obtain ⟨x, h1, h2, h3⟩ := blanks_split l
    obtain ⟨y, hy⟩ := hP.n h
    exact ⟨x ++ y, by rw [List.append_assoc, ← hy, ← h2]⟩
  d := hP.d
  f1 := by
    intro l d r h hr t
    try dsimp only at h
    try dsimp only
    have hl : TJ.blanks l ≠ [] := by
      intro e; rw [e] at h
      obtain ⟨x, hx⟩ := hP.n h
      exact hr (by cases x with | nil => exact hx.symm | cons _ _ => cases hx)
    rw [blanks_app hl]
    exact hP.f1 h hr t
  f2 := by
    intro l d h t ht
    try dsimp only at h
    try dsimp only
    by_cases hl : TJ.blanks l = []
    · rw [blanks_app_nil hl, blanks_bk ht]
      rw [hl] at h
      have := hP.d (l := []) (r := [])
      cases d with
      | false => exact ⟨[], h, by simp⟩
      | true => exact absurd rfl (this h)
    · rw [blanks_app hl]
      exact hP.f2 h t ht
end Go.Proofs.YtdhdeaknflekpaaDoor.TJ
