/- Plain law of JsonBack: a shaped value's print is read as it. -/
import Derived.Test.YtdhdeaknflekpaaDoorPl
set_option linter.unusedSimpArgs false
set_option linter.unusedVariables false
namespace Go.Proofs.YtdhdeaknflekpaaDoor.TJ

theorem sound_cases {n : N} (h : sound n = true) : 0 ≤ n.kids ∧ valid n.key = true ∧ ((n.kind = 6 ∨ n.kind = 7) ∧ n.text = [] ∨ n.kind = 4 ∧ n.kids = 0 ∧ isNum n.text = true ∨ n.kind = 5 ∧ n.kids = 0 ∧ valid n.text = true ∨ (n.kind = 1 ∨ n.kind = 2 ∨ n.kind = 3) ∧ n.kids = 0 ∧ n.text = []) := by
  unfold sound at h
  split at h
  · cases h
  · rename_i h0
    simp only [Bool.or_eq_true, decide_eq_true_eq, Bool.not_eq_true', not_or, Bool.not_eq_false] at h0
    refine ⟨by omega, h0.2, ?_⟩
    split at h
    · exact .inl ⟨‹_›, List.isEmpty_iff.1 h⟩
    · split at h
      · simp only [Bool.and_eq_true, beq_iff_eq] at h
        exact .inr (.inl ⟨‹_›, h.1, h.2⟩)
      · split at h
        · simp only [Bool.and_eq_true, beq_iff_eq] at h
          exact .inr (.inr (.inl ⟨‹_›, h.1, h.2⟩))
        · split at h
          · simp only [Bool.and_eq_true, beq_iff_eq] at h
            exact .inr (.inr (.inr ⟨‹_›, h.1, List.isEmpty_iff.1 h.2⟩))
          · cases h
/-- a text that begins as a value may begin -/
def Begins (p : List UInt8) : Prop := ∃ c q, p = c :: q ∧ sBlank.contains c = false ∧ c ≠ 93 ∧ c ≠ 125
theorem Begins.blanks {p t : List UInt8} (h : Begins p) : blanks (p ++ t) = p ++ t := by
  obtain ⟨c, q, rfl, h1, -⟩ := h
  exact blanks_one h1
theorem Begins.app {p t : List UInt8} (h : Begins p) : Begins (p ++ t) := by
  obtain ⟨c, q, rfl, h1⟩ := h
  exact ⟨c, q ++ t, rfl, h1⟩
theorem quote_begins (s : List UInt8) : Begins (quote s) := ⟨34, s.flatMap qbyte ++ [34], rfl, by decide, by decide, by decide⟩
theorem word_self : ∀ (s t : List UInt8), word s (s ++ t) = (true, t)
  | [], t => rfl
  | c :: s, t => by rw [List.cons_append, word, if_pos (by simp [has])]; exact word_self s t
theorem isNum_head {l : List UInt8} (h : isNum l = true) : ∃ c q, l = c :: q ∧ (c = 45 ∨ sDigit.contains c = true) := by
  have h1 : number l = (true, []) := by simpa [isNum] using h
  cases l with
  | nil => exact absurd (number_len h1) (by simp)
  | cons c q =>
    refine ⟨c, q, rfl, ?_⟩
    unfold number at h1
    by_cases h2 : c = 45
    · exact .inl h2
    · right
      rw [if_neg (by simpa [has] using h2)] at h1
      unfold whole at h1
      split at h1
      · rename_i h3
        have : c = 48 := by simpa [has] using h3
        subst this
        decide
      · split at h1
        · rename_i h3 h4
          unfold digits at h4
          split at h4
          · simpa [has] using ‹has sDigit (c :: q) = true›
          · cases h4
        · cases h1
/-- what back says of one value -/
structure Came (d : Nat) (kf : Bool) (l r : List N) (n : N) (v : List N) (p : List UInt8) : Prop where
  parts : l = n :: v ++ r
  prt : prt d kf l = ((if kf then quote n.key ++ [58] else []) ++ p, r)
  begins : Begins p
  valid : valid n.key = true
  nokey : kf = false → n.key = []
  reads : ∀ t, Stop t → value d n.key (p ++ t) = .ok (n :: v) t
theorem fresh_quote {keys : List (List UInt8)} {s : List UInt8} (h : valid s = true) (hk : keys.contains s = false) (t : List UInt8) : fresh keys (quote s ++ t) = .ok s t := by
  unfold fresh
  rw [str_quote h]
  dsimp only
  rw [if_neg (by rw [hk]; simp)]
theorem items_step {d : Nat} {obj : Bool} {l r : List N} {n : N} {v : List N} {p : List UInt8} (h : Came d obj l r n v p) {keys : List (List UInt8)} (hk : obj = true → keys.contains n.key = false) (F : Nat) {x : List UInt8} (hx : Stop x) :
    items (value d) obj (F + 1) keys ((if obj then quote n.key ++ [58] else []) ++ p ++ x) = rest (value d) obj F keys n.key (n :: v) (blanks x) := by
  have e := congrFun (items_eq (value d) obj F keys) ((if obj then quote n.key ++ [58] else []) ++ p ++ x)
  try dsimp only at e
  rw [e]
  cases obj with
  | false =>
    have hk0 := h.nokey rfl
    show (R.bind (value d [] (([] : List UInt8) ++ p ++ x)) _) = _
    rw [List.nil_append]
    have := h.reads x hx
    rw [hk0] at this
    rw [this, hk0]
    rfl
  | true =>
    have h1 : kd keys (quote n.key ++ [58] ++ p ++ x) = .ok n.key (p ++ x) := by
      unfold kd
      rw [show quote n.key ++ [58] ++ p ++ x = quote n.key ++ (58 :: (p ++ x)) by simp, fresh_quote h.valid (hk rfl)]
      show TJ.opt [58] (fun l => .ok n.key l) (fun l => .no false l) (blanks (58 :: (p ++ x))) = _
      rw [blanks_one (by decide)]
      rfl
    show (R.bind (kd keys (quote n.key ++ [58] ++ p ++ x)) _) = _
    rw [h1]
    show (R.bind (value d n.key (blanks (p ++ x))) _) = _
    rw [h.begins.blanks, h.reads x hx]
    rfl
theorem shut_stop (obj : Bool) (t : List UInt8) : Stop (shut obj :: t) := by
  rintro c r h
  injection h with h1 h2
  subst h1
  cases obj <;> decide
theorem comma_stop (t : List UInt8) : Stop (44 :: t) := by
  rintro c r h
  injection h with h1 h2
  subst h1
  decide
theorem prts_more (f : List N → List UInt8 × List N) (k : Nat) (l : List N) : prts f (k + 1) true l = (44 :: (prts f (k + 1) false l).1, (prts f (k + 1) false l).2) := by
  simp [prts]
theorem kids_back {d : Nat} {obj : Bool} (ih : ∀ l r, sub d obj l = some r → ∃ n v p, Came d obj l r n v p) : ∀ (k : Nat) (keys keys' : List (List UInt8)) (l r : List N), (obj = true → keys' = keys) → subs (sub d obj) obj (k + 1) keys l = some r →
    ∃ v b, l = v ++ r ∧ prts (prt d obj) (k + 1) false l = (b, r) ∧ Begins b ∧ ∀ t F, (b ++ shut obj :: t).length < F → items (value d) obj F keys' (b ++ shut obj :: t) = .ok (k + 1, v) t
  | k, keys, keys', l, r, hkk, h => by
    rw [subs] at h
    cases h1 : sub d obj l with
    | none => rw [h1] at h; cases h
    | some r1 =>
      rw [h1] at h
      dsimp only at h
      obtain ⟨n, v, p, hc⟩ := ih l r1 h1
      have hl := hc.parts
      have hh : l.head! = n := by rw [hl]; rfl
      rw [hh] at h
      have hfresh : (obj = true → keys'.contains n.key = false) := by
        intro ho
        rw [hkk ho]
        rw [if_pos ho] at h
        split at h
        · cases h
        · simpa using ‹¬keys.contains n.key = true›
      have h2 : subs (sub d obj) obj k (if obj then n.key :: keys else keys) r1 = some r := by
        cases obj with
        | false => exact h
        | true =>
          rw [if_pos rfl] at h
          split at h
          · cases h
          · exact h
      have hp : prts (prt d obj) (k + 1) false l = ((if obj then quote n.key ++ [58] else []) ++ p ++ (prts (prt d obj) k true r1).1, (prts (prt d obj) k true r1).2) := by
        rw [prts, hc.prt]
        simp
      have hb0 : Begins ((if obj then quote n.key ++ [58] else []) ++ p) := by
        cases obj with
        | false => exact hc.begins
        | true => exact ((quote_begins n.key).app).app
      cases k with
      | zero =>
        rw [subs] at h2
        injection h2 with h2
        subst h2
        refine ⟨n :: v, _, hl, hp, hb0.app, fun t F hF => ?_⟩
        cases F with
        | zero => omega
        | succ F =>
          show items (value d) obj (F + 1) keys' ((if obj then quote n.key ++ [58] else []) ++ p ++ [] ++ shut obj :: t) = _
          rw [List.append_nil, items_step hc hfresh F (shut_stop obj t), blanks_one (by cases obj <;> decide)]
          unfold rest opt
          rw [if_pos (by simp [has])]
          rfl
      | succ k =>
        obtain ⟨v2, b2, e1, e2, e3, e4⟩ := kids_back ih k _ (n.key :: keys') r1 r (by intro ho; rw [if_pos ho, hkk ho]) h2
        rw [prts_more, e2] at hp
        dsimp only at hp
        refine ⟨n :: v ++ v2, _, by rw [hl, e1]; simp, hp, hb0.app, fun t F hF => ?_⟩
        cases F with
        | zero => omega
        | succ F =>
          rw [show (if obj then quote n.key ++ [58] else []) ++ p ++ 44 :: b2 ++ shut obj :: t = (if obj then quote n.key ++ [58] else []) ++ p ++ (44 :: (b2 ++ shut obj :: t)) by simp]
          rw [items_step hc hfresh F (comma_stop _), blanks_one (by decide)]
          unfold rest opt
          rw [if_neg (by cases obj <;> simp [has, shut]), if_pos (by simp [has]), List.tail_cons]
          show (R.bind (items (value d) obj F (n.key :: keys') (blanks (b2 ++ shut obj :: t))) _) = _
          rw [e3.blanks, e4 t F (by simp at hF ⊢; omega)]
          show R.ok (1 + (k + 1), n :: v ++ v2) t = _
          rw [Nat.add_comm 1]
theorem value_word (d : Nat) (key : List UInt8) (kind : Int) (w t : List UInt8) (hw : kind = 1 ∧ w = [110, 117, 108, 108] ∨ kind = 2 ∧ w = [102, 97, 108, 115, 101] ∨ kind = 3 ∧ w = [116, 114, 117, 101]) : value d key (w ++ t) = .ok [⟨kind, key, [], 0⟩] t := by
  rw [value_eq]
  have hs := word_self w t
  rcases hw with ⟨rfl, rfl⟩ | ⟨rfl, rfl⟩ | ⟨rfl, rfl⟩
  · unfold valueP alt
    rw [if_pos (by simp [has])]
    unfold wordP
    rw [hs]
    rfl
  · unfold valueP alt
    rw [if_neg (by simp [has]), if_pos (by simp [has])]
    unfold wordP
    rw [hs]
    rfl
  · unfold valueP alt
    rw [if_neg (by simp [has]), if_neg (by simp [has]), if_pos (by simp [has])]
    unfold wordP
    rw [hs]
    rfl
theorem value_quote (d : Nat) (key : List UInt8) {s : List UInt8} (hs : valid s = true) (t : List UInt8) : value d key (quote s ++ t) = .ok [⟨5, key, s, 0⟩] t := by
  rw [value_eq]
  have h := str_quote hs t
  unfold valueP alt strP
  have hh : ∀ w, has w (quote s ++ t) = w.contains 34 := fun w => rfl
  rw [if_neg (by rw [hh]; decide), if_neg (by rw [hh]; decide), if_neg (by rw [hh]; decide), if_pos (by rw [hh]; decide), h]
  rfl
theorem value_number (d : Nat) (key : List UInt8) {s : List UInt8} (hs : isNum s = true) {t : List UInt8} (ht : Stop t) : value d key (s ++ t) = .ok [⟨4, key, s, 0⟩] t := by
  rw [value_eq]
  obtain ⟨c, q, hl, hc⟩ := isNum_head hs
  have h1 : number s = (true, []) := by simpa [isNum] using hs
  have h2 : ofB (number (s ++ t)) = .ok () t := number_good.s2 (l := s) (a := ()) (by show ofB (number s) = _; rw [h1]; rfl) t ht
  have hh : ∀ w, has w (s ++ t) = w.contains c := fun w => by rw [hl]; rfl
  have hn : ∀ w : List UInt8, w = [110] ∨ w = [102] ∨ w = [116] ∨ w = [34] ∨ w = [91, 123] → ¬ (has w (s ++ t) = true) := by
    intro w hw
    rw [hh]
    have hc' : c ∈ (45 :: sDigit : List UInt8) := by
      rcases hc with rfl | hc
      · simp
      · exact List.mem_cons_of_mem _ (by simpa using hc)
    have : ∀ c ∈ (45 :: sDigit : List UInt8), ∀ w ∈ ([[110], [102], [116], [34], [91, 123]] : List (List UInt8)), ¬ (w.contains c = true) := by decide
    exact this c hc' w (by simpa using hw)
  unfold valueP alt
  rw [if_neg (hn _ (by simp)), if_neg (hn _ (by simp)), if_neg (hn _ (by simp)), if_neg (hn _ (by simp)), if_neg (hn _ (by simp))]
  unfold numP told
  dsimp only
  rw [h2]
  show R.ok _ t = _
  rw [take_told]
theorem open_obj (d : Nat) (key x : List UInt8) : value (d + 1) key (123 :: x) = (body (value d) true x).bind fun p l => .ok (⟨7, key, [], p.1⟩ :: p.2) l := by
  rw [value_eq]
  rfl
theorem open_list (d : Nat) (key x : List UInt8) : value (d + 1) key (91 :: x) = (body (value d) false x).bind fun p l => .ok (⟨6, key, [], p.1⟩ :: p.2) l := by
  rw [value_eq]
  rfl
theorem open_any (d : Nat) (key x : List UInt8) (obj : Bool) : value (d + 1) key ((if obj then 123 else 91) :: x) = (body (value d) obj x).bind fun p l => .ok (⟨if obj then 7 else 6, key, [], p.1⟩ :: p.2) l := by
  cases obj
  · exact open_list d key x
  · exact open_obj d key x
theorem back : ∀ (d : Nat) (kf : Bool) (l r : List N), sub d kf l = some r → ∃ n v p, Came d kf l r n v p
  | d, kf, [], r, h => by rw [sub] at h; cases h
  | d, kf, n :: r0, r, h => by
    rw [sub.eq_def] at h
    dsimp only at h
    split at h
    · cases h
    · rename_i h0
      simp only [Bool.or_eq_true, Bool.not_eq_true', Bool.and_eq_true, not_or, Bool.not_eq_false, not_and] at h0
      obtain ⟨hs, hkey⟩ := h0
      have hnk : kf = false → n.key = [] := fun e => List.isEmpty_iff.1 (by simpa using hkey (by rw [e]))
      obtain ⟨hk0, hval, hcases⟩ := sound_cases hs
      split at h
      · rename_i h67
        obtain ⟨-, ht⟩ : (n.kind = 6 ∨ n.kind = 7) ∧ n.text = [] := by
          rcases hcases with hc | hc | hc | hc
          · exact hc
          all_goals (exfalso; omega)
        cases d with
        | zero => cases h
        | succ d =>
          dsimp only at h
          obtain ⟨obj, hobj⟩ : ∃ obj : Bool, obj = decide (n.kind = 7) := ⟨_, rfl⟩
          rw [← hobj] at h
          have hkind : n.kind = if obj then 7 else 6 := by
            rw [hobj]
            rcases h67 with h6 | h7
            · rw [h6]; rfl
            · rw [h7]; rfl
          have hprt : prt (d + 1) kf (n :: r0) = ((if kf then quote n.key ++ [58] else []) ++ ((if obj then 123 else 91) :: ((prts (prt d obj) n.kids.toNat false r0).1 ++ [shut obj])), (prts (prt d obj) n.kids.toNat false r0).2) := by
            rw [prt.eq_def]
            dsimp only
            have e7 : (n.kind = 7) = (obj = true) := by rw [hobj]; simp
            rw [if_neg (by omega), if_neg (by omega), if_neg (by omega), if_neg (by omega), if_neg (by omega)]
            have ed : (decide (n.kind = 7)) = obj := hobj.symm
            simp only [ed, e7]
            have es : shut obj = if obj = true then 125 else 93 := by cases obj <;> rfl
            rw [es]
            simp
          have hnode : n = ⟨if obj then 7 else 6, n.key, [], n.kids⟩ := by
            obtain ⟨a, b, c, e⟩ := n
            simp only at hkind ht ⊢
            rw [hkind, ht]
          have hbeg : ∀ q, Begins ((if obj then 123 else 91) :: q) := fun q => ⟨_, q, rfl, by cases obj <;> decide, by cases obj <;> decide, by cases obj <;> decide⟩
          cases hk : n.kids.toNat with
          | zero =>
            rw [hk, subs] at h
            injection h with h
            subst h
            rw [hk] at hprt
            refine ⟨n, [], _, rfl, hprt, hbeg _, hval, hnk, fun t ht => ?_⟩
            show value (d + 1) n.key ((if obj then 123 else 91) :: (([] : List UInt8) ++ [shut obj] ++ t)) = _
            rw [open_any]
            show (R.bind (body (value d) obj (shut obj :: t)) _) = _
            unfold body opt
            rw [blanks_one (by cases obj <;> decide), if_pos (by simp [has])]
            show R.ok [(⟨if obj then 7 else 6, n.key, [], ((0 : Nat) : Int)⟩ : N)] t = _
            have : n.kids = ((0 : Nat) : Int) := by omega
            rw [← this, ← hnode]
          | succ k =>
            rw [hk] at h hprt
            obtain ⟨v, b, e1, e2, e3, e4⟩ := kids_back (back d obj) k [] [] r0 r (fun _ => rfl) h
            rw [e2] at hprt
            refine ⟨n, v, _, by rw [e1]; rfl, hprt, hbeg _, hval, hnk, fun t ht => ?_⟩
            rw [List.cons_append, open_any]
            dsimp only
            rw [show b ++ [shut obj] ++ t = b ++ shut obj :: t by simp]
            unfold body opt
            rw [e3.blanks]
            obtain ⟨c, q, hb, hb1, hb2, hb3⟩ := e3
            rw [if_neg (by rw [hb]; cases obj <;> simp [has, shut, hb2, hb3])]
            show (R.bind (items (value d) obj ((b ++ shut obj :: t).length + 1) [] (b ++ shut obj :: t)) _) = _
            rw [e4 t _ (Nat.lt_succ_self _)]
            show R.ok ((⟨if obj then 7 else 6, n.key, [], ((k + 1 : Nat) : Int)⟩ : N) :: v) t = _
            have : n.kids = ((k + 1 : Nat) : Int) := by omega
            rw [← this, ← hnode]
      · rename_i h67
        injection h with h
        subst h
        have hleaf : ∀ (p : List UInt8), prt d kf (n :: r0) = ((if kf then quote n.key ++ [58] else []) ++ p, r0) → Begins p → (∀ t, Stop t → value d n.key (p ++ t) = .ok [n] t) → ∃ n' v p, Came d kf (n :: r0) r0 n' v p :=
          fun p h1 h2 h3 => ⟨n, [], p, rfl, h1, h2, hval, hnk, h3⟩
        rcases hcases with hc | ⟨hc, hk, ht⟩ | ⟨hc, hk, ht⟩ | ⟨hc, hk, ht⟩
        · exact absurd hc.1 h67
        · obtain ⟨c, q, hl, hcc⟩ := isNum_head ht
          refine hleaf n.text ?_ ⟨c, q, hl, ?_⟩ fun t hst => ?_
          · rw [prt.eq_def]
            dsimp only
            rw [if_neg (by omega), if_neg (by omega), if_neg (by omega), if_pos hc]
          · have : ∀ c ∈ (45 :: sDigit : List UInt8), sBlank.contains c = false ∧ c ≠ 93 ∧ c ≠ 125 := by decide
            refine this c ?_
            rcases hcc with rfl | hcc
            · simp
            · exact List.mem_cons_of_mem _ (by simpa using hcc)
          · rw [value_number d n.key ht hst]
            obtain ⟨a, b, c, e⟩ := n
            simp only at hc hk ⊢
            rw [hc, hk]
        · refine hleaf (quote n.text) ?_ (quote_begins _) fun t hst => ?_
          · rw [prt.eq_def]
            dsimp only
            rw [if_neg (by omega), if_neg (by omega), if_neg (by omega), if_neg (by omega), if_pos hc]
          · rw [value_quote d n.key ht]
            obtain ⟨a, b, c, e⟩ := n
            simp only at hc hk ⊢
            rw [hc, hk]
        · have hn : n = ⟨n.kind, n.key, [], 0⟩ := by
            obtain ⟨a, b, c, e⟩ := n
            simp only at hk ht ⊢
            rw [hk, ht]
          rcases hc with hc | hc | hc
          · refine hleaf [110, 117, 108, 108] ?_ ⟨110, _, rfl, by decide, by decide, by decide⟩ fun t hst => ?_
            · rw [prt.eq_def]
              dsimp only
              rw [if_pos hc]
            · rw [value_word d n.key 1 _ t (.inl ⟨rfl, rfl⟩), ← hc, ← hn]
          · refine hleaf [102, 97, 108, 115, 101] ?_ ⟨102, _, rfl, by decide, by decide, by decide⟩ fun t hst => ?_
            · rw [prt.eq_def]
              dsimp only
              rw [if_neg (by omega), if_pos hc]
            · rw [value_word d n.key 2 _ t (.inr (.inl ⟨rfl, rfl⟩)), ← hc, ← hn]
          · refine hleaf [116, 114, 117, 101] ?_ ⟨116, _, rfl, by decide, by decide, by decide⟩ fun t hst => ?_
            · rw [prt.eq_def]
              dsimp only
              rw [if_neg (by omega), if_neg (by omega), if_pos hc]
            · rw [value_word d n.key 3 _ t (.inr (.inr ⟨rfl, rfl⟩)), ← hc, ← hn]
termination_by d => d
/-- a shaped value comes back from its print -/
theorem parse_print {v : List N} (h : shaped v = true) : parse (print v) = .ok v [] := by
  have h1 : sub 64 false v = some [] := by simpa [shaped] using h
  obtain ⟨n, u, p, hc⟩ := back 64 false v [] h1
  have hv : v = n :: u := by have := hc.parts; simpa using this
  have hp : print v = p := by unfold print; rw [hc.prt]; rfl
  have h2 := hc.reads [] (by rintro c r h; cases h)
  rw [List.append_nil, hc.nokey rfl] at h2
  rw [hp, parse_eq]
  have h3 := hc.begins.blanks (t := [])
  rw [List.append_nil] at h3
  rw [h3, h2]
  dsimp only
  rw [show blanks [] = [] from rfl, if_pos rfl, hv]
end Go.Proofs.YtdhdeaknflekpaaDoor.TJ
