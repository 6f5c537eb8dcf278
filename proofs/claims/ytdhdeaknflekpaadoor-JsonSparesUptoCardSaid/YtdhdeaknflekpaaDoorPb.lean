/- Plain laws: each part of a text is read alike whatever stands behind it. -/
import Derived.Test.YtdhdeaknflekpaaDoorPa
namespace Go.Proofs.YtdhdeaknflekpaaDoor.TJ

theorem Strong.alt {α : Type} {s : List UInt8} {P Q : List UInt8 → R α} (hs : ∀ c ∈ stops, c ∉ s) (hP : Strong P) (hP0 : ∀ a r, P [] ≠ .ok a r) (hQ : Strong Q) (hQ0 : ∀ a r, Q [] ≠ .ok a r) : Strong (alt s P Q) :=
  { Good.alt hs hP.good hP0 hQ.good with
    e := by
      intro l a r h
      unfold TJ.alt at h
      by_cases hh : has s l = true
      · rw [if_pos hh] at h
        obtain ⟨x, rfl, hy⟩ := hP.e h
        refine ⟨x, rfl, fun t => ?_⟩
        have hx : x ≠ [] := by
          rintro rfl
          exact hP0 _ _ (hy [])
        unfold TJ.alt
        rw [has_app hx, ← has_app (t := r) hx, if_pos hh]
        exact hy t
      · rw [if_neg hh] at h
        obtain ⟨x, rfl, hy⟩ := hQ.e h
        refine ⟨x, rfl, fun t => ?_⟩
        have hx : x ≠ [] := by
          rintro rfl
          exact hQ0 _ _ (hy [])
        unfold TJ.alt
        rw [has_app hx, ← has_app (t := r) hx, if_neg hh]
        exact hy t }
/-- by the first byte -/
def head {α : Type} (f : UInt8 → Option (List UInt8 → R α)) : List UInt8 → R α
  | [] => .no false []
  | c :: r => match f c with
    | some P => P r
    | none => .no false (c :: r)
theorem head_cons {α : Type} (f : UInt8 → Option (List UInt8 → R α)) (c : UInt8) (r : List UInt8) : head f (c :: r) = match f c with
    | some P => P r
    | none => .no false (c :: r) := rfl
theorem Strong.head {α : Type} {f : UInt8 → Option (List UInt8 → R α)} (hf : ∀ c P, f c = some P → Strong P) (h0 : ∀ t, Bk t → ∃ r, head f t = .no false r ∧ r.length ≤ t.length) : Strong (head f) where
  e := by
    intro l a r h
    cases l with
    | nil => cases h
    | cons c l =>
      rw [head_cons] at h
      cases hc : f c with
      | none => rw [hc] at h; cases h
      | some P =>
        rw [hc] at h
        obtain ⟨x, rfl, hx⟩ := (hf c P hc).e h
        refine ⟨c :: x, rfl, fun t => ?_⟩
        rw [List.cons_append]
        rw [head_cons]
        rw [hc]
        exact hx t
  n := by
    intro l d r h
    cases l with
    | nil => cases h; exact ⟨[], rfl⟩
    | cons c l =>
      rw [head_cons] at h
      cases hc : f c with
      | none => rw [hc] at h; cases h; exact ⟨[], rfl⟩
      | some P =>
        rw [hc] at h
        obtain ⟨x, rfl⟩ := (hf c P hc).n h
        exact ⟨c :: x, rfl⟩
  d := by
    intro l r h
    cases l with
    | nil => cases h
    | cons c l =>
      rw [head_cons] at h
      cases hc : f c with
      | none => rw [hc] at h; cases h
      | some P => rw [hc] at h; exact (hf c P hc).d h
  f1 := by
    intro l d r h hr t
    cases l with
    | nil => cases h; exact absurd rfl hr
    | cons c l =>
      rw [List.cons_append]
      rw [head_cons] at h ⊢
      cases hc : f c with
      | none => rw [hc] at h; cases h; rfl
      | some P => rw [hc] at h; exact (hf c P hc).f1 h hr t
  f2 := by
    intro l d h t ht
    cases l with
    | nil => exact h0 t ht
    | cons c l =>
      rw [List.cons_append]
      rw [head_cons] at h ⊢
      cases hc : f c with
      | none => rw [hc] at h; cases h
      | some P => rw [hc] at h; exact (hf c P hc).f2 h t ht
theorem Strong.head' {α : Type} {f : UInt8 → Option (List UInt8 → R α)} (hf : ∀ c P, f c = some P → Strong P) (hb : ∀ c ∈ sBlank, f c = none) : Strong (TJ.head f) :=
  Strong.head hf fun t ht => by
    cases t with
    | nil => exact ⟨[], rfl, Nat.le_refl _⟩
    | cons c t =>
      refine ⟨c :: t, ?_, Nat.le_refl _⟩
      rw [head_cons]
      rw [hb c (ht c (by simp))]
theorem Strong.of_fuel {α : Type} {P : Nat → List UInt8 → R α} {Q : List UInt8 → R α} (h : ∀ F, Strong (P F)) (hq : ∀ F l, l.length < F → Q l = P F l) : Strong Q where
  e := by
    intro l a r hl
    have h1 := hl
    rw [hq (l.length + 1) l (by omega)] at h1
    obtain ⟨x, hx, -⟩ := (h _).e h1
    refine ⟨x, hx, fun t => ?_⟩
    have h2 := hl
    rw [hq (l.length + t.length + 1) l (by omega)] at h2
    obtain ⟨y, hy, hz⟩ := (h _).e h2
    obtain rfl : x = y := List.append_cancel_right (hx.symm.trans hy)
    rw [hq (l.length + t.length + 1) (x ++ t) (by rw [hx]; simp; omega)]
    exact hz t
  n := fun hl => (h _).n ((hq _ _ (Nat.lt_succ_self _)).symm.trans hl)
  d := fun hl => (h _).d ((hq _ _ (Nat.lt_succ_self _)).symm.trans hl)
  f1 := by
    intro l d r hl hr t
    rw [hq (l.length + t.length + 1) l (by omega)] at hl
    rw [hq (l.length + t.length + 1) (l ++ t) (by simp)]
    exact (h _).f1 hl hr t
  f2 := by
    intro l d hl t ht
    rw [hq (l.length + t.length + 1) l (by omega)] at hl
    rw [hq (l.length + t.length + 1) (l ++ t) (by simp)]
    exact (h _).f2 hl t ht
theorem Good.of_fuel {α : Type} {P : Nat → List UInt8 → R α} {Q : List UInt8 → R α} (h : ∀ F, Good (P F)) (hq : ∀ F l, l.length < F → Q l = P F l) : Good Q where
  s := by
    intro l a r hl
    have h1 := hl
    rw [hq (l.length + 1) l (by omega)] at h1
    obtain ⟨x, hx, h3⟩ := (h _).s h1
    refine ⟨x, hx, fun y z hz => ?_⟩
    rw [hq (l.length + 1) (x ++ y) (by rw [hx, hz]; simp; omega)]
    exact h3 y z hz
  s1 := by
    intro l a r hl hr t
    rw [hq (l.length + t.length + 1) l (by omega)] at hl
    rw [hq (l.length + t.length + 1) (l ++ t) (by simp)]
    exact (h _).s1 hl hr t
  s2 := by
    intro l a hl t ht
    rw [hq (l.length + t.length + 1) l (by omega)] at hl
    rw [hq (l.length + t.length + 1) (l ++ t) (by simp)]
    exact (h _).s2 hl t ht
  n := fun hl => (h _).n ((hq _ _ (Nat.lt_succ_self _)).symm.trans hl)
  d := fun hl => (h _).d ((hq _ _ (Nat.lt_succ_self _)).symm.trans hl)
  f1 := by
    intro l d r hl hr t
    rw [hq (l.length + t.length + 1) l (by omega)] at hl
    rw [hq (l.length + t.length + 1) (l ++ t) (by simp)]
    exact (h _).f1 hl hr t
  f2 := by
    intro l d hl t ht
    rw [hq (l.length + t.length + 1) l (by omega)] at hl
    rw [hq (l.length + t.length + 1) (l ++ t) (by simp)]
    exact (h _).f2 hl t ht
/-- with the text that was read -/
def told {α β : Type} (g : List UInt8 → α → β) (P : List UInt8 → R α) (l : List UInt8) : R β := (P l).bind fun a r => .ok (g (l.take (l.length - r.length)) a) r
theorem take_told (x r : List UInt8) : (x ++ r).take ((x ++ r).length - r.length) = x := by
  rw [List.length_append, Nat.add_sub_cancel, List.take_left']
  rfl
theorem Good.told {α β : Type} {g : List UInt8 → α → β} {P : List UInt8 → R α} (hP : Good P) : Good (told g P) where
  s := by
    intro l b r h
    unfold TJ.told at h
    cases hp : P l with
    | no d r1 => rw [hp] at h; cases h
    | ok a r1 =>
      rw [hp] at h
      cases h
      obtain ⟨x, rfl, hx⟩ := hP.s hp
      refine ⟨x, rfl, fun y z hz => ?_⟩
      unfold TJ.told
      rw [hx y z hz, take_told]
      show R.ok (g (List.take ((x ++ y).length - y.length) (x ++ y)) a) y = _
      rw [take_told]
  s1 := by
    intro l b r h hr t
    unfold TJ.told at h ⊢
    cases hp : P l with
    | no d r1 => rw [hp] at h; cases h
    | ok a r1 =>
      rw [hp] at h
      cases h
      obtain ⟨x, rfl, hx⟩ := hP.s hp
      rw [hP.s1 hp hr t, take_told]
      show R.ok (g (List.take ((x ++ r ++ t).length - (r ++ t).length) (x ++ r ++ t)) a) (r ++ t) = _
      rw [List.append_assoc, take_told]
  s2 := by
    intro l b h t ht
    unfold TJ.told at h ⊢
    cases hp : P l with
    | no d r1 => rw [hp] at h; cases h
    | ok a r1 =>
      rw [hp] at h
      cases h
      rw [hP.s2 hp t ht]
      show R.ok (g (List.take ((l ++ t).length - t.length) (l ++ t)) a) t = _
      rw [take_told]
      simp
  n := by
    intro l d r h
    unfold TJ.told at h
    cases hp : P l with
    | no d' r1 => rw [hp] at h; cases h; exact hP.n hp
    | ok a r1 => rw [hp] at h; cases h
  d := by
    intro l r h
    unfold TJ.told at h
    cases hp : P l with
    | no d' r1 => rw [hp] at h; cases h; exact hP.d hp
    | ok a r1 => rw [hp] at h; cases h
  f1 := by
    intro l d r h hr t
    unfold TJ.told at h ⊢
    cases hp : P l with
    | no d' r1 => rw [hp] at h; cases h; rw [hP.f1 hp hr t]; rfl
    | ok a r1 => rw [hp] at h; cases h
  f2 := by
    intro l d h t ht
    unfold TJ.told at h ⊢
    cases hp : P l with
    | no d' r1 => rw [hp] at h; cases h; obtain ⟨r, h1, h2⟩ := hP.f2 hp t ht; exact ⟨r, by rw [h1]; rfl, h2⟩
    | ok a r1 => rw [hp] at h; cases h

/-! ### numbers -/
def D (l : List UInt8) : R Unit := ofB (digits l)
theorem dropWhile_pre {p : UInt8 → Bool} {l y z : List UInt8} (h : l.dropWhile p = y ++ z) : y.dropWhile p = y := by
  cases y with
  | nil => rfl
  | cons c y =>
    have h2 : (l.dropWhile p).head? = some c := by rw [h]; rfl
    have h3 := List.head?_dropWhile_not (p := p) l
    rw [h2] at h3
    simp at h3
    rw [List.dropWhile_cons, h3]
    rfl
theorem dropWhile_app {p : UInt8 → Bool} (x y : List UInt8) (h : ∀ c ∈ x, p c = true) : (x ++ y).dropWhile p = y.dropWhile p := by
  induction x with
  | nil => rfl
  | cons c x ih => rw [List.cons_append, List.dropWhile_cons, if_pos (h c (by simp)), ih fun d hd => h d (by simp [hd])]
theorem dropWhile_nil {p : UInt8 → Bool} : ∀ {l : List UInt8}, l.dropWhile p = [] → ∀ c ∈ l, p c = true
  | [], _, c, hc => by cases hc
  | b :: l, h, c, hc => by
    rw [List.dropWhile_cons] at h
    split at h
    · rcases List.mem_cons.1 hc with rfl | hc
      · assumption
      · exact dropWhile_nil h c hc
    · cases h
theorem Good.skip (p : UInt8 → Bool) (hp : ∀ c ∈ stops, p c = false) : Good (fun l => R.ok () (l.dropWhile p)) where
  s := by
    intro l a r h
    cases h
    refine ⟨l.takeWhile p, (List.takeWhile_append_dropWhile).symm, fun y z hz => ?_⟩
    show R.ok () ((l.takeWhile p ++ y).dropWhile p) = _
    rw [dropWhile_app _ _ (fun c hc => by have := List.all_takeWhile (p := p) (l := l); rw [List.all_eq_true] at this; exact this c hc), dropWhile_pre hz]
  s1 := by
    intro l a r h hr t
    cases h
    show R.ok () ((l ++ t).dropWhile p) = _
    have e : l = l.takeWhile p ++ l.dropWhile p := (List.takeWhile_append_dropWhile).symm
    have hall : ∀ c ∈ l.takeWhile p, p c = true := fun c hc => by have := List.all_takeWhile (p := p) (l := l); rw [List.all_eq_true] at this; exact this c hc
    have h1 : (l ++ t).dropWhile p = (l.dropWhile p ++ t).dropWhile p := by
      conv => lhs; rw [e]
      rw [List.append_assoc, dropWhile_app _ _ hall]
    rw [h1]
    have h2 := dropWhile_pre (p := p) (l := l) (y := l.dropWhile p) (z := []) (by simp)
    revert hr h2
    generalize l.dropWhile p = u
    intro hr h2
    cases u with
    | nil => exact absurd rfl hr
    | cons c u =>
      rw [List.cons_append, List.dropWhile_cons]
      rw [List.dropWhile_cons] at h2
      split at h2
      · have := congrArg List.length h2
        have h4 := (List.dropWhile_suffix (p := p) (l := u)).length_le
        simp at this; omega
      · rw [if_neg ‹_›]
  s2 := by
    intro l a h t ht
    have h0 : l.dropWhile p = [] := by injection h
    have hall : ∀ c ∈ l, p c = true := dropWhile_nil h0
    show R.ok () ((l ++ t).dropWhile p) = _
    rw [dropWhile_app _ _ hall]
    cases t with
    | nil => rfl
    | cons c t => rw [List.dropWhile_cons, hp c (ht c t rfl)]; rfl
  n := fun h => by cases h
  d := fun h => by cases h
  f1 := fun h => by cases h
  f2 := fun h => by cases h
theorem D_eq : D = opt sDigit (fun l => .ok () (l.dropWhile sDigit.contains)) (fun l => .no false l) := by
  funext l
  unfold D digits opt
  split <;> rfl
theorem D_good : Good D := by
  rw [D_eq]
  exact Good.opt (by decide) (.inl (by decide)) (Good.skip _ (by decide)) Strong.no.good
theorem exp_eq : (fun l => ofB (exp l)) = opt [101, 69] (opt [43, 45] D D) (fun l => .ok () l) := by
  funext l
  unfold exp opt D
  split
  · split <;> rfl
  · rfl
theorem exp_good : Good (fun l => ofB (exp l)) := by
  rw [exp_eq]
  exact Good.opt (by decide) (.inl (by decide)) (Good.opt (by decide) (.inl (by decide)) D_good D_good) (Strong.ok ()).good
theorem frac_eq : (fun l => ofB (frac l)) = opt [46] (fun l => (D l).bind fun _ l => ofB (exp l)) (fun l => ofB (exp l)) := by
  funext l
  unfold frac opt D
  dsimp only
  split
  · generalize digits l.tail = q
    obtain ⟨b, r⟩ := q
    cases b <;> rfl
  · rfl
theorem frac_good : Good (fun l => ofB (frac l)) := by
  rw [frac_eq]
  exact Good.opt (by decide) (.inl (by decide)) (Good.bind D_good fun _ => exp_good) exp_good
theorem whole_eq : (fun l => ofB (whole l)) = opt [48] (fun l => ofB (frac l)) (fun l => (D l).bind fun _ l => ofB (frac l)) := by
  funext l
  unfold whole opt D
  dsimp only
  split
  · rfl
  · generalize digits l = q
    obtain ⟨b, r⟩ := q
    cases b <;> rfl
theorem whole_good : Good (fun l => ofB (whole l)) := by
  rw [whole_eq]
  exact Good.opt (by decide) (.inl (by decide)) frac_good (Good.bind D_good fun _ => frac_good)
theorem number_eq : (fun l => ofB (number l)) = opt [45] (fun l => ofB (whole l)) (fun l => ofB (whole l)) := by
  funext l
  unfold number opt
  split <;> rfl
theorem number_good : Good (fun l => ofB (number l)) := by
  rw [number_eq]
  exact Good.opt (by decide) (.inl (by decide)) whole_good whole_good

/-! ### words, digits of base 16 -/
theorem word_strong : ∀ s : List UInt8, (∀ c ∈ s, c ∉ sBlank) → Strong (fun l => ofB (word s l))
  | [], _ => Strong.ok ()
  | c :: s, h => by
    have e : (fun l => ofB (word (c :: s) l)) = opt [c] (fun l => ofB (word s l)) (fun l => .no false l) := by
      funext l
      unfold opt
      rw [word]
      split <;> rfl
    rw [e]
    exact Strong.opt (fun d hd hc => h c (by simp) (by simpa using (List.mem_singleton.1 hc) ▸ hd)) (word_strong s fun d hd => h d (by simp [hd])) Strong.no (fun _ _ h => by cases h)
theorem hexes_strong : ∀ (ss : List (List UInt8)) (n : Int), (∀ s ∈ ss, ∀ c ∈ sBlank, c ∉ s) → Strong (fun l => ofO (hexes ss n l))
  | [], n, _ => Strong.ok n
  | s :: ss, n, h => by
    have e : (fun l => ofO (hexes (s :: ss) n l)) = head (fun c => if s.contains c then some (fun r => ofO (hexes ss (16 * n + hexOf c) r)) else none) := by
      funext l
      cases l with
      | nil => rfl
      | cons c r =>
        rw [head_cons]
        rw [hexes]
        cases s.contains c <;> rfl
    rw [e]
    refine Strong.head' (fun c P hc => ?_) fun c hc => ?_
    · split at hc
      · cases hc; exact hexes_strong ss _ fun t ht => h t (by simp [ht])
      · cases hc
    · rw [if_neg]
      simpa using h s (by simp) c hc
theorem four_strong (low : Bool) : Strong (fun l => ofO (four low l)) := by
  cases low with
  | true =>
    have e : (fun l => ofO (four true l)) = fun l => ofO (hexes [[100, 68], sLow, sHex, sHex] 0 l) := rfl
    rw [e]
    exact hexes_strong _ _ (by decide)
  | false =>
    have e : (fun l => ofO (four false l)) = alt [100, 68] (fun l => ofO (hexes [sHex, sHigh, sHex, sHex] 0 l)) (fun l => ofO (hexes [sHex, sHex, sHex, sHex] 0 l)) := by
      funext l
      unfold four alt
      rw [if_neg (by simp)]
      split <;> rfl
    rw [e]
    exact Strong.alt (by decide) (hexes_strong _ _ (by decide)) (fun _ _ h => by cases h) (hexes_strong _ _ (by decide)) (fun _ _ h => by cases h)
/-- what stands behind a first half -/
def second (n : Int) : List UInt8 → R (List UInt8) :=
  opt [92] (opt [117] (fun l => (ofO (four true l)).bind fun m l => .ok (rune (65536 + (n - 55296) * 1024 + (m - 56320))) l) (fun l => .no false l)) (fun l => .no false l)
theorem second_strong (n : Int) : Strong (second n) :=
  Strong.opt (by decide) (Strong.opt (by decide) (Strong.bind (four_strong true) fun _ => Strong.ok _) Strong.no (fun _ _ h => by cases h)) Strong.no (fun _ _ h => by cases h)
def esc (c : UInt8) : Option (List UInt8 → R (List UInt8)) :=
  if says c ≠ 0 then some fun l => .ok [says c] l
  else if c = 117 then some fun l => (ofO (four false l)).bind fun n l => if 55296 ≤ n ∧ n ≤ 56319 then second n l else .ok (rune n) l
  else none
theorem escape_eq : (fun l => ofO (escape l)) = head esc := by
  funext l
  cases l with
  | nil => rfl
  | cons c r =>
    rw [head_cons]
    unfold esc
    rw [escape]
    by_cases h1 : says c ≠ 0
    · rw [if_pos h1, if_pos h1]; rfl
    · rw [if_neg h1, if_neg h1]
      by_cases h2 : c = 117
      · rw [if_pos h2, if_pos h2]
        dsimp only
        generalize four false r = q
        obtain ⟨o, l⟩ := q
        cases o with
        | none => rfl
        | some n =>
          show ofO (if 55296 ≤ n ∧ n ≤ 56319 then _ else _) = if 55296 ≤ n ∧ n ≤ 56319 then second n l else R.ok (rune n) l
          by_cases h3 : 55296 ≤ n ∧ n ≤ 56319
          · rw [if_pos h3, if_pos h3]
            unfold second opt
            split
            · split
              · dsimp only
                generalize four true l.tail.tail = q
                obtain ⟨o, l⟩ := q
                cases o <;> rfl
              · rfl
            · rfl
          · rw [if_neg h3, if_neg h3]; rfl
      · rw [if_neg h2, if_neg h2]; rfl
theorem escape_strong : Strong (fun l => ofO (escape l)) := by
  rw [escape_eq]
  refine Strong.head' (fun c P hc => ?_) (fun c hc => ?_)
  · unfold esc at hc
    split at hc
    · cases hc; exact Strong.ok _
    · split at hc
      · cases hc
        refine Strong.bind (four_strong false) fun n => ?_
        by_cases h3 : 55296 ≤ n ∧ n ≤ 56319
        · simp only [if_pos h3]; exact second_strong n
        · simp only [if_neg h3]; exact Strong.ok _
      · cases hc
  · exact (show ∀ c ∈ sBlank, (if says c ≠ 0 then true else if c = 117 then true else false) = false by decide) c hc |> fun h => by
      unfold esc
      by_cases h1 : says c ≠ 0
      · rw [if_pos h1] at h; cases h
      · rw [if_neg h1] at h ⊢
        by_cases h2 : c = 117
        · rw [if_pos h2] at h; cases h
        · rw [if_neg h2]
theorem more_strong : ∀ (n : Nat) (lo hi : UInt8) (pre : List UInt8), 128 ≤ lo → Strong (fun l => ofO (more n lo hi pre l))
  | 0, _, _, pre, _ => Strong.ok pre
  | n + 1, lo, hi, pre, h => by
    have e : (fun l => ofO (more (n + 1) lo hi pre l)) = head (fun c => if lo ≤ c ∧ c ≤ hi then some (fun r => ofO (more n 128 191 (pre ++ [c]) r)) else none) := by
      funext l
      cases l with
      | nil => rfl
      | cons c r =>
        rw [head_cons]
        rw [more]
        by_cases hc : lo ≤ c ∧ c ≤ hi
        · rw [if_pos hc, if_pos hc]
        · rw [if_neg hc, if_neg hc]; rfl
    rw [e]
    refine Strong.head' (fun c P hc => ?_) fun c hc => ?_
    · split at hc
      · cases hc; exact more_strong n _ _ _ (by decide)
      · cases hc
    · rw [if_neg]
      intro hl
      have h1 := Nat.le_trans (UInt8.le_iff_toNat_le.1 h) (UInt8.le_iff_toNat_le.1 hl.1)
      have h2 := (show ∀ c ∈ sBlank, c.toNat < 128 by decide) c hc
      simp at h1
      omega
/-- behind a first byte of a character -/
def lead (c : UInt8) : Option (List UInt8 → R (List UInt8)) :=
  if c < 32 then none
  else if c < 128 then some fun l => .ok [c] l
  else if 194 ≤ c ∧ c ≤ 223 then some fun r => ofO (more 1 128 191 [c] r)
  else if 224 ≤ c ∧ c ≤ 239 then some fun r => ofO (more 2 (if c = 224 then 160 else 128) (if c = 237 then 159 else 191) [c] r)
  else if 240 ≤ c ∧ c ≤ 244 then some fun r => ofO (more 3 (if c = 240 then 144 else 128) (if c = 244 then 143 else 191) [c] r)
  else none
theorem char_eq : (fun l => ofO (char l)) = head lead := by
  funext l
  cases l with
  | nil => rfl
  | cons c r =>
    rw [head_cons]
    unfold lead
    rw [char]
    split
    · rfl
    · split
      · rfl
      · split
        · rfl
        · split
          · rfl
          · split <;> rfl
theorem lead_strong (c : UInt8) (P : List UInt8 → R (List UInt8)) (h : lead c = some P) : Strong P := by
  unfold lead at h
  split at h
  · cases h
  · split at h
    · cases h; exact Strong.ok _
    · split at h
      · cases h; exact more_strong _ _ _ _ (by decide)
      · split at h
        · cases h; exact more_strong _ _ _ _ (by split <;> decide)
        · split at h
          · cases h; exact more_strong _ _ _ _ (by split <;> decide)
          · cases h
/-- one character of a string, the quote not -/
def one (c : UInt8) : Option (List UInt8 → R (List UInt8)) := if c = 92 then some fun l => ofO (escape l) else lead c
theorem one_strong (c : UInt8) (P : List UInt8 → R (List UInt8)) (h : one c = some P) : Strong P := by
  unfold one at h
  split at h
  · cases h; exact escape_strong
  · exact lead_strong c P h
def strK (f : Nat) (acc : List UInt8) (c : UInt8) : Option (List UInt8 → R (List UInt8)) :=
  if c = 34 then some fun l => .ok acc l else (one c).map fun P l => (P l).bind fun b l => ofO (strs f (acc ++ b) l)
theorem strs_eq (f : Nat) (acc : List UInt8) : (fun l => ofO (strs (f + 1) acc l)) = head (strK f acc) := by
  funext l
  cases l with
  | nil => rfl
  | cons c r =>
    rw [head_cons]
    unfold strK
    rw [strs]
    by_cases h1 : c = 34
    · rw [if_pos h1, if_pos h1]; rfl
    · rw [if_neg h1, if_neg h1]
      unfold one
      by_cases h2 : c = 92
      · rw [if_pos h2, if_pos h2]
        show _ = (ofO (escape r)).bind _
        generalize escape r = q
        obtain ⟨o, l⟩ := q
        cases o <;> rfl
      · rw [if_neg h2, if_neg h2]
        have h3 : ofO (char (c :: r)) = head lead (c :: r) := congrFun char_eq _
        rw [head_cons] at h3
        revert h3
        generalize char (c :: r) = q
        intro h3
        obtain ⟨o, l⟩ := q
        cases hl : lead c with
        | none =>
          rw [hl] at h3
          cases o with
          | none => cases h3; rfl
          | some b => cases h3
        | some P =>
          rw [hl] at h3
          dsimp only at h3
          show _ = (P r).bind _
          cases o with
          | none => rw [← h3]; rfl
          | some b => rw [← h3]; rfl
theorem strs_bk : ∀ (f : Nat) (acc t : List UInt8), Bk t → ∃ r, ofO (strs f acc t) = .no false r ∧ r.length ≤ t.length
  | 0, _, t, _ => ⟨t, rfl, Nat.le_refl _⟩
  | f + 1, acc, [], _ => ⟨[], rfl, Nat.le_refl _⟩
  | f + 1, acc, c :: t, h => by
    have e := congrFun (strs_eq f acc) (c :: t)
    try dsimp only at e
    rw [e]
    have hc := h c (by simp)
    have hc' : c = 32 ∨ c = 9 ∨ c = 10 ∨ c = 13 := by simpa [sBlank] using hc
    obtain ⟨r, h1, h2⟩ := strs_bk f (acc ++ [32]) t h.tail
    rcases hc' with rfl | rfl | rfl | rfl
    · exact ⟨r, h1, by simp; omega⟩
    · exact ⟨_, rfl, Nat.le_refl _⟩
    · exact ⟨_, rfl, Nat.le_refl _⟩
    · exact ⟨_, rfl, Nat.le_refl _⟩
theorem strs_strong : ∀ (f : Nat) (acc : List UInt8), Strong (fun l => ofO (strs f acc l))
  | 0, _ => Strong.no
  | f + 1, acc => by
    have hs := strs_eq f acc
    rw [hs]
    refine Strong.head (fun c P hc => ?_) fun t ht => ?_
    · unfold strK at hc
      split at hc
      · cases hc; exact Strong.ok _
      · cases hp : one c with
        | none => rw [hp] at hc; cases hc
        | some Q =>
          rw [hp] at hc
          cases hc
          exact Strong.bind (one_strong c Q hp) fun b => strs_strong f _
    · rw [← hs]
      exact strs_bk (f + 1) acc t ht
theorem Strong.shorter {α : Type} {P : List UInt8 → R α} (h : Strong P) {l r : List UInt8} {a : α} (hp : P l = .ok a r) : r.length ≤ l.length := by
  obtain ⟨x, rfl, -⟩ := h.e hp
  simp
theorem ofO_inj {α : Type} : ∀ {p q : Option α × List UInt8}, ofO p = ofO q → p = q
  | (some _, _), (some _, _), h => by cases h; rfl
  | (none, _), (none, _), h => by cases h; rfl
  | (some _, _), (none, _), h => by cases h
  | (none, _), (some _, _), h => by cases h
theorem strs_fuel : ∀ (f f' : Nat) (acc l : List UInt8), l.length < f → l.length < f' → ofO (strs f acc l) = ofO (strs f' acc l)
  | 0, _, _, _, h, _ => by omega
  | _ + 1, 0, _, _, _, h => by omega
  | f + 1, f' + 1, acc, [], _, _ => rfl
  | f + 1, f' + 1, acc, c :: r, h, h' => by
    have e := congrFun (strs_eq f acc) (c :: r)
    have e' := congrFun (strs_eq f' acc) (c :: r)
    try dsimp only at e e'
    rw [e, e']
    rw [head_cons, head_cons]
    unfold strK
    by_cases h1 : c = 34
    · rw [if_pos h1, if_pos h1]
    · rw [if_neg h1, if_neg h1]
      cases hp : one c with
      | none => rfl
      | some P =>
        show (P r).bind _ = (P r).bind _
        cases hr : P r with
        | no d l => rfl
        | ok b l =>
          have := (one_strong c P hp).shorter hr
          simp only [List.length_cons] at h h'
          exact strs_fuel f f' _ l (by omega) (by omega)
theorem str_eq (F : Nat) (l : List UInt8) (h : l.length < F) : ofO (str l) = opt [34] (fun l => ofO (strs F [] l)) (fun l => .no false l) l := by
  unfold str opt
  split
  · cases l with
    | nil => cases ‹has [34] [] = true›
    | cons c l => exact strs_fuel _ _ _ _ (by simp) (by simp at h ⊢; omega)
  · rfl
theorem str_strong : Strong (fun l => ofO (str l)) :=
  Strong.of_fuel (P := fun F => opt [34] (fun l => ofO (strs F [] l)) (fun l => .no false l)) (fun F => Strong.opt (by decide) (strs_strong F []) Strong.no (fun _ _ h => by cases h)) str_eq
end Go.Proofs.YtdhdeaknflekpaaDoor.TJ
