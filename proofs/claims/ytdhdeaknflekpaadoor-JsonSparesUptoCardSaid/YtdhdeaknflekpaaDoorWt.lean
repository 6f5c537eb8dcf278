/- json.Print's closure. -/
import Derived.Test.YtdhdeaknflekpaaDoorWs
import Derived.Laws.EntriesVeiled
set_option linter.unusedSimpArgs false
set_option linter.unusedVariables false
namespace Go.Proofs.YtdhdeaknflekpaaDoor
open Go.RowKit Go.Maps

def FV (vb ab bb fb : Nat) : Value := .func (Fn.func 19) #[] #[.pointer (some ⟨vb, 0, none⟩), .pointer (some ⟨ab, 0, none⟩), .pointer (some ⟨bb, 0, none⟩), .pointer (some ⟨fb, 0, none⟩)]
/-- what is asked where the closure is called -/
structure CPre (B vb ab bb fb : Nat) (v : Value) (l : List TJ.N) (w : World) : Prop where
  pd : PD B vb ab bb fb
  rn : ∀ w', Below B w w' → RN w' v l
  ok : ∀ x ∈ l, NOk x
  len : l.length ≤ 4194304
  tabs : Tabs w
  three : 3 < B
  low : B ≤ w.heap.size
theorem CPre.next {B vb ab bb fb : Nat} {v : Value} {l : List TJ.N} {w w' : World} (h : CPre B vb ab bb fb v l w) (hb : Below B w w') : CPre B vb ab bb fb v l w' :=
  ⟨h.pd, fun w2 h2 => h.rn w2 (hb.trans h2), h.ok, h.len, h.tabs.below hb h.three, h.three, Nat.le_trans h.low hb.size⟩
def CPost (B vb ab bb fb : Nat) (v : Value) (l r : List TJ.N) (bs : List Value) (t : List UInt8) (w : World) (e : Ending) (w' : World) : Prop :=
  e = .returned (.tuple #[]) ∧ (∃ a' : Nat, a' ≤ l.length ∧ l.drop a' = r ∧ PS B vb ab bb fb v (FV vb ab bb fb) a' (bs ++ bvals t) w') ∧ CK B bb ab w w'
def CloC (D : Nat) : Prop := ∀ (B vb ab bb fb : Nat) (v : Value) (l r : List TJ.N) (a : Nat) (key : Bool) (bs : List Value) (w : World), CPre B vb ab bb fb v l w → PS B vb ab bb fb v (FV vb ab bb fb) a bs w → TJ.sub D key (l.drop a) = some r →
  bs.length + (TJ.prt D key (l.drop a)).1.length ≤ 1073741824 →
  Calls Tryd.prog 19 #[.bool key, .pointer (some ⟨vb, 0, none⟩), .pointer (some ⟨ab, 0, none⟩), .pointer (some ⟨bb, 0, none⟩), .pointer (some ⟨fb, 0, none⟩)] w (CPost B vb ab bb fb v l r bs (TJ.prt D key (l.drop a)).1 w)
/-- within the closure -/
structure PN (B vb ab bb fb : Nat) (v : Value) (N : Array Value) (w : World) (a : Nat) (bs : List Value) (wx : World) : Prop where
  ps : PS B vb ab bb fb v (FV vb ab bb fb) a bs wx
  ck : CK B bb ab w wx
  nb : wx.heap[w.heap.size]? = some (.cells N 36 (0, 0))
theorem PN.write {B vb ab bb fb : Nat} {v : Value} {N : Array Value} {w wx w2 : World} {a : Nat} {bs bs2 : List Value} (h : PN B vb ab bb fb v N w a bs wx) (hd : PD B vb ab bb fb) (hbb : bb < w.heap.size) (hI : IsB B bb bs2 w2) (hk : PK B bb wx w2) : PN B vb ab bb fb v N w a bs2 w2 where
  ps := h.ps.write hd hI hk
  ck := h.ck.trans (CK.of hk)
  nb := hk.others _ _ h.nb (by intro e; have := Option.some.inj e; omega) (fun _ _ e => by injection e with _ e2; cases e2)
theorem PN.call {B vb ab bb fb : Nat} {v : Value} {N : Array Value} {w wx w2 : World} {a a2 : Nat} {bs bs2 : List Value} (h : PN B vb ab bb fb v N w a bs wx) (hbb : bb < w.heap.size) (hab : ab < w.heap.size) (hp : PS B vb ab bb fb v (FV vb ab bb fb) a2 bs2 w2) (hk : CK B bb ab wx w2) : PN B vb ab bb fb v N w a2 bs2 w2 where
  ps := hp
  ck := h.ck.trans hk
  nb := hk.kept _ _ h.nb (by omega) (by omega) (fun _ _ e => by injection e with _ e2; cases e2)
theorem PS.lts {B vb ab bb fb : Nat} {v FV : Value} {a : Nat} {bs : List Value} {w : World} (h : PS B vb ab bb fb v FV a bs w) : ab < w.heap.size ∧ bb < w.heap.size := by
  refine ⟨(Array.getElem?_eq_some_iff.1 h.a).1, ?_⟩
  rcases h.b with ⟨_, v, h2, _⟩ | ⟨_, v, h2, _⟩ <;> exact (Array.getElem?_eq_some_iff.1 h2).1
def kbytes (key : Bool) (ky : List UInt8) : List UInt8 := if key then TJ.quote ky ++ [58] else []
theorem bvals_app (a b : List UInt8) : bvals (a ++ b) = bvals a ++ bvals b := by simp [bvals]
theorem sub_head {D : Nat} {key : Bool} {l r : List TJ.N} {n : TJ.N} {a : Nat} (h : TJ.sub D key (n :: l) = some r) : TJ.sound n = true ∧ (if n.kind = 6 ∨ n.kind = 7 then ∃ D', D = D' + 1 ∧ TJ.subs (TJ.sub D' (n.kind = 7)) (n.kind = 7) n.kids.toNat [] l = some r else r = l) := by
  rw [TJ.sub.eq_def] at h
  dsimp only at h
  split at h
  · cases h
  · rename_i hc
    have hs : TJ.sound n = true := by
      cases hs : TJ.sound n with
      | true => rfl
      | false => rw [hs] at hc; simp at hc
    refine ⟨hs, ?_⟩
    split at h
    · rw [if_pos ‹_›]
      cases D with
      | zero => cases h
      | succ D => exact ⟨D, rfl, h⟩
    · rw [if_neg ‹_›]
      cases h; rfl
theorem prt_leaf {D : Nat} {key : Bool} {n : TJ.N} {l : List TJ.N} (hs : TJ.sound n = true) (h6 : n.kind ≠ 6) (h7 : n.kind ≠ 7) :
    (TJ.prt D key (n :: l)).1 = kbytes key n.key ++ (if n.kind = 1 then [110, 117, 108, 108] else if n.kind = 2 then [102, 97, 108, 115, 101] else if n.kind = 3 then [116, 114, 117, 101] else if n.kind = 4 then n.text else TJ.quote n.text) := by
  rw [TJ.prt.eq_def]
  dsimp only
  unfold kbytes
  rcases sound_kind hs with h | h | h | h | h | h | h
  · simp [h]
  · simp [h]
  · simp [h]
  · simp [h]
  · simp [h]
  · exact absurd h h6
  · exact absurd h h7
theorem prt_node {D : Nat} {key : Bool} {n : TJ.N} {l : List TJ.N} (h : n.kind = 6 ∨ n.kind = 7) :
    (TJ.prt (D + 1) key (n :: l)).1 = kbytes key n.key ++ [if n.kind = 7 then 123 else 91] ++ (TJ.prts (TJ.prt D (n.kind = 7)) n.kids.toNat false l).1 ++ [if n.kind = 7 then 125 else 93] := by
  rw [TJ.prt.eq_def]
  dsimp only
  unfold kbytes
  rw [if_neg (by omega), if_neg (by omega), if_neg (by omega), if_neg (by omega), if_neg (by omega)]
theorem prt_key {D : Nat} {n : TJ.N} {l : List TJ.N} {r : List TJ.N} (h : TJ.sub D true (n :: l) = some r) : (TJ.quote n.key).length + 1 ≤ (TJ.prt D true (n :: l)).1.length := by
  obtain ⟨hs, hr⟩ := sub_head (a := 0) h
  by_cases hk : n.kind = 6 ∨ n.kind = 7
  · rw [if_pos hk] at hr
    obtain ⟨D', rfl, -⟩ := hr
    rw [prt_node hk]
    simp [kbytes] <;> omega
  · rw [prt_leaf hs (by omega) (by omega)]
    have : (TJ.quote n.key).length + 1 ≤ (kbytes true n.key).length := by simp [kbytes]
    simp only [List.length_append]
    omega
/-- in the loop over a node's children -/
def CloRel (B vb ab bb fb : Nat) (v : Value) (N : Array Value) (w : World) (l r : List TJ.N) (D : Nat) (obj : Bool) (kids : Int) (cl : UInt8) (bs : List Value) (t : List UInt8) (s30 : Value) (wr : World) : Prop :=
  ∃ (k a : Nat) (x : List UInt8) (keys : List (List UInt8)), s30 = .int .i64 k ∧ (k : Int) ≤ kids ∧ a ≤ l.length ∧ PN B vb ab bb fb v N w a (bs ++ bvals x) wr
    ∧ t = x ++ (TJ.prts (TJ.prt D obj) (kids - k).toNat (decide (k ≠ 0)) (l.drop a)).1 ++ [cl] ∧ TJ.subs (TJ.sub D obj) obj (kids - k).toNat keys (l.drop a) = some r
set_option maxRecDepth 100000 in
set_option maxHeartbeats 8000000 in
theorem clo_calls (D : Nat) (ih : ∀ D', D = D' + 1 → CloC D') : CloC D := by
  intro B vb ab bb fb v l r a key bs w hpre hps hsub hlen
  have IH := Lib.hid ih
  have HPre := Lib.hid hpre
  have hRN := hpre.rn w (Below.refl _ _)
  have halt : a < l.length := by
    apply Decidable.byContradiction
    intro hn
    rw [List.drop_eq_nil_of_le (by omega), TJ.sub.eq_def] at hsub
    cases hsub
  obtain ⟨ad, cp, rfl, hcp, hcl⟩ := hRN
  obtain ⟨b, o, rfl, hcm⟩ := hcl (fun e => by rw [e] at halt; simp at halt)
  obtain ⟨n, hn⟩ : ∃ n, n = l[a]'halt := ⟨_, rfl⟩
  obtain ⟨c0, c1, c2, c3⟩ := hcm a halt
  rw [← hn] at c0 c1 c2 c3
  have hnk := hpre.ok n (by rw [hn]; exact List.getElem_mem halt)
  have hdr : l.drop a = n :: l.drop (a + 1) := by rw [hn]; exact List.drop_eq_getElem_cons halt
  rw [hdr] at hsub hlen ⊢
  obtain ⟨kd, ky, tx, kids⟩ := n
  obtain ⟨hk1, hk2, hk3, hk4⟩ := hnk
  dsimp only at c0 c1 c2 c3 hk1 hk2 hk3 hk4
  obtain ⟨hso, hres⟩ := sub_head (a := 0) hsub
  obtain ⟨t, ht⟩ : ∃ t, t = (TJ.prt D key (⟨kd, ky, tx, kids⟩ :: l.drop (a + 1))).1 := ⟨_, rfl⟩
  rw [← ht] at hlen ⊢
  have HTX := Lib.hid ht
  have HRes := Lib.hid hres
  have HSO := Lib.hid hso
  have HSUB := Lib.hid hsub
  obtain ⟨s0, s1, s2, s3⟩ := hps.cells
  obtain ⟨hab, hbb⟩ := hps.lts
  have hl4 := hpre.len
  have hpn : PN B vb ab bb fb (.slice (some ⟨b, o, none⟩) l.length cp) #[.int .i64 kd, .string ⟨ky.toArray⟩, .string ⟨tx.toArray⟩, .int .i64 kids] w (a + 1) bs ((w.setCell ⟨ab, 0, none⟩ (.int .i64 ((a : Int) + 1))).alloc (.cells #[.int .i64 kd, .string ⟨ky.toArray⟩, .string ⟨tx.toArray⟩, .int .i64 kids] 36)) :=
    ⟨(hps.go hpre.pd (a + 1) _ (by simp)).alloc _, ((CK.refl B bb ab w).set hpre.pd.la 0 _).alloc (by have := hpre.low; simpa [World.setCell] using this) _, by
      have := heap_alloc_new (w.setCell ⟨ab, 0, none⟩ (.int .i64 ((a : Int) + 1))) (.cells #[.int .i64 kd, .string ⟨ky.toArray⟩, .string ⟨tx.toArray⟩, .int .i64 kids] 36)
      rwa [show (w.setCell ⟨ab, 0, none⟩ (.int .i64 ((a : Int) + 1))).heap.size = w.heap.size by simp [World.setCell]] at this⟩
  have HPN := Lib.hid hpn
  clear hcl hcm hn hdr hsub ht hres hso hps hpn ih hpre
  go_enter Tryd.func19, Tryd.ntmps19
  go_upto_if 15 with fail
  go_cut [] (fun wx => PN B vb ab bb fb (.slice (some ⟨b, o, none⟩) l.length cp) #[.int .i64 kd, .string ⟨ky.toArray⟩, .string ⟨tx.toArray⟩, .int .i64 kids] w (a + 1) (bs ++ bvals (kbytes key ky)) wx)
  case first =>
    clear c0 c1 c2 c3 s0 s1 s2 s3
    cases key with
    | false =>
      go_wp2_with fail
      go_meet
      simpa [kbytes, bvals] using HPN.out
    | true =>
      have hql : bs.length + (TJ.quote ky).length + 1 ≤ 1073741824 := by
        have h1 := prt_key HSUB.out
        rw [← HTX.out] at h1
        dsimp only at h1
        omega
      generalize (w.setCell ⟨ab, 0, none⟩ (.int .i64 ((a : Int) + 1))).alloc _ = W1 at *
      obtain ⟨m0, m1, -, -⟩ : W1.cell? ⟨w.heap.size, 0, none⟩ = some (.int .i64 kd) ∧ W1.cell? ⟨w.heap.size, 1, none⟩ = some (.string ⟨ky.toArray⟩) ∧ True ∧ True := ⟨(block_cells HPN.out.nb).1 0 _ rfl, (block_cells HPN.out.nb).1 1 _ rfl, trivial, trivial⟩
      have hq := Lib.hid (quote_calls B bb bs ⟨ky.toArray⟩ W1 HPN.out.ps.b (by omega) (by rw [size_mk]; omega) (Nat.le_trans HPre.out.low HPN.out.ck.below.size) ((HPre.out.tabs.below HPN.out.ck.below HPre.out.three).wrt) (by have := HPre.out.three; omega))
      rw [bl_mk] at hq
      go_wp2_with fail
      refine hq.out.mono ?_
      rintro e w2 ⟨rfl, hI2, hk2⟩
      have HPN2 := Lib.hid (HPN.out.write HPre.out.pd hbb hI2 hk2)
      have hw := Lib.hid (WriteByte_calls B bb _ 58 w2 HPN2.out.ps.b (by rw [List.length_append, bvals_length]; omega) (Nat.le_trans HPre.out.low HPN2.out.ck.below.size))
      clear hI2 hk2 hq m0 m1
      go_wp2_with fail
      refine hw.out.mono ?_
      rintro e w3 ⟨rfl, hI3, hb3, ho3⟩
      have HPN3 := Lib.hid (HPN2.out.write HPre.out.pd hbb hI3 ⟨hb3, ho3⟩)
      clear hI3 hb3 ho3 hw
      go_wp2_with fail
      go_meet
      have e1 : bs ++ bvals (kbytes true ky) = bs ++ bvals (TJ.quote ky) ++ [.int .u8 58] := by simp [kbytes, bvals]
      rw [e1]
      exact HPN3.out
  case rest =>
    have HPN1 := Lib.hid hcut
    obtain ⟨m0, m1, m2, m3⟩ : wc.cell? ⟨w.heap.size, 0, none⟩ = some (.int .i64 kd) ∧ wc.cell? ⟨w.heap.size, 1, none⟩ = some (.string ⟨ky.toArray⟩) ∧ wc.cell? ⟨w.heap.size, 2, none⟩ = some (.string ⟨tx.toArray⟩) ∧ wc.cell? ⟨w.heap.size, 3, none⟩ = some (.int .i64 kids) :=
      ⟨(block_cells hcut.nb).1 0 _ rfl, (block_cells hcut.nb).1 1 _ rfl, (block_cells hcut.nb).1 2 _ rfl, (block_cells hcut.nb).1 3 _ rfl⟩
    clear hcut c0 c1 c2 c3 s0 s1 s2 s3 HPN HSUB
    have hkind := sound_kind HSO.out
    dsimp only at hkind
    rcases hkind with rfl | rfl | rfl | rfl | rfl | rfl | rfl
    · have ht := HTX.out
      rw [prt_leaf HSO.out (by simp) (by simp)] at ht
      have ht2 : t = kbytes key ky ++ [110, 117, 108, 108] := ht
      have hr := HRes.out
      rw [if_neg (by simp)] at hr
      have hst : Lib.strCells ⟨#[110, 117, 108, 108]⟩ = bvals [110, 117, 108, 108] := strCells_bl _
      have hw := Lib.hid (WriteString_calls B bb _ ⟨#[110, 117, 108, 108]⟩ wc HPN1.out.ps.b (by have e9 : (⟨#[110, 117, 108, 108]⟩ : ByteArray).size = [110, 117, 108, 108].length := rfl; rw [e9, List.length_append, bvals_length]; rw [ht2, List.length_append] at hlen; omega) (Nat.le_trans HPre.out.low HPN1.out.ck.below.size))
      rw [hst] at hw
      have HTT := Lib.hid ht2
      have HRR := Lib.hid hr
      clear ht ht2 hr hst HTX HRes
      go_wp2_with fail
      refine hw.out.mono ?_
      rintro e w2 ⟨rfl, hI2, hb2, ho2⟩
      have HPN2 := Lib.hid (HPN1.out.write HPre.out.pd hbb hI2 ⟨hb2, ho2⟩)
      clear hI2 hb2 ho2 hw m0 m1 m2 m3
      go_wp2_with fail
      go_end0
      exact ⟨rfl, ⟨a + 1, halt, HRR.out.symm, by rw [HTT.out, bvals_app, ← List.append_assoc]; exact HPN2.out.ps⟩, HPN2.out.ck⟩
    · have ht := HTX.out
      rw [prt_leaf HSO.out (by simp) (by simp)] at ht
      have ht2 : t = kbytes key ky ++ [102, 97, 108, 115, 101] := ht
      have hr := HRes.out
      rw [if_neg (by simp)] at hr
      have hst : Lib.strCells ⟨#[102, 97, 108, 115, 101]⟩ = bvals [102, 97, 108, 115, 101] := strCells_bl _
      have hw := Lib.hid (WriteString_calls B bb _ ⟨#[102, 97, 108, 115, 101]⟩ wc HPN1.out.ps.b (by have e9 : (⟨#[102, 97, 108, 115, 101]⟩ : ByteArray).size = [102, 97, 108, 115, 101].length := rfl; rw [e9, List.length_append, bvals_length]; rw [ht2, List.length_append] at hlen; omega) (Nat.le_trans HPre.out.low HPN1.out.ck.below.size))
      rw [hst] at hw
      have HTT := Lib.hid ht2
      have HRR := Lib.hid hr
      clear ht ht2 hr hst HTX HRes
      go_wp2_with fail
      refine hw.out.mono ?_
      rintro e w2 ⟨rfl, hI2, hb2, ho2⟩
      have HPN2 := Lib.hid (HPN1.out.write HPre.out.pd hbb hI2 ⟨hb2, ho2⟩)
      clear hI2 hb2 ho2 hw m0 m1 m2 m3
      go_wp2_with fail
      go_end0
      exact ⟨rfl, ⟨a + 1, halt, HRR.out.symm, by rw [HTT.out, bvals_app, ← List.append_assoc]; exact HPN2.out.ps⟩, HPN2.out.ck⟩
    · have ht := HTX.out
      rw [prt_leaf HSO.out (by simp) (by simp)] at ht
      have ht2 : t = kbytes key ky ++ [116, 114, 117, 101] := ht
      have hr := HRes.out
      rw [if_neg (by simp)] at hr
      have hst : Lib.strCells ⟨#[116, 114, 117, 101]⟩ = bvals [116, 114, 117, 101] := strCells_bl _
      have hw := Lib.hid (WriteString_calls B bb _ ⟨#[116, 114, 117, 101]⟩ wc HPN1.out.ps.b (by have e9 : (⟨#[116, 114, 117, 101]⟩ : ByteArray).size = [116, 114, 117, 101].length := rfl; rw [e9, List.length_append, bvals_length]; rw [ht2, List.length_append] at hlen; omega) (Nat.le_trans HPre.out.low HPN1.out.ck.below.size))
      rw [hst] at hw
      have HTT := Lib.hid ht2
      have HRR := Lib.hid hr
      clear ht ht2 hr hst HTX HRes
      go_wp2_with fail
      refine hw.out.mono ?_
      rintro e w2 ⟨rfl, hI2, hb2, ho2⟩
      have HPN2 := Lib.hid (HPN1.out.write HPre.out.pd hbb hI2 ⟨hb2, ho2⟩)
      clear hI2 hb2 ho2 hw m0 m1 m2 m3
      go_wp2_with fail
      go_end0
      exact ⟨rfl, ⟨a + 1, halt, HRR.out.symm, by rw [HTT.out, bvals_app, ← List.append_assoc]; exact HPN2.out.ps⟩, HPN2.out.ck⟩
    · have ht := HTX.out
      rw [prt_leaf HSO.out (by simp) (by simp)] at ht
      have ht2 : t = kbytes key ky ++ tx := ht
      have hr := HRes.out
      rw [if_neg (by simp)] at hr
      have hst : Lib.strCells ⟨tx.toArray⟩ = bvals tx := by rw [strCells_bl, bl_mk]
      have hw := Lib.hid (WriteString_calls B bb _ ⟨tx.toArray⟩ wc HPN1.out.ps.b (by rw [size_mk, List.length_append, bvals_length]; rw [ht2, List.length_append] at hlen; omega) (Nat.le_trans HPre.out.low HPN1.out.ck.below.size))
      rw [hst] at hw
      have HTT := Lib.hid ht2
      have HRR := Lib.hid hr
      clear ht ht2 hr hst HTX HRes
      go_wp2_with fail
      refine hw.out.mono ?_
      rintro e w2 ⟨rfl, hI2, hb2, ho2⟩
      have HPN2 := Lib.hid (HPN1.out.write HPre.out.pd hbb hI2 ⟨hb2, ho2⟩)
      clear hI2 hb2 ho2 hw m0 m1 m2 m3
      go_wp2_with fail
      go_end0
      exact ⟨rfl, ⟨a + 1, halt, HRR.out.symm, by rw [HTT.out, bvals_app, ← List.append_assoc]; exact HPN2.out.ps⟩, HPN2.out.ck⟩
    · have ht := HTX.out
      rw [prt_leaf HSO.out (by simp) (by simp)] at ht
      have ht2 : t = kbytes key ky ++ TJ.quote tx := ht
      have hr := HRes.out
      rw [if_neg (by simp)] at hr
      have hq := Lib.hid (quote_calls B bb _ ⟨tx.toArray⟩ wc HPN1.out.ps.b (by rw [List.length_append, bvals_length]; rw [ht2, List.length_append] at hlen; omega) (by rw [size_mk]; omega) (Nat.le_trans HPre.out.low HPN1.out.ck.below.size) ((HPre.out.tabs.below HPN1.out.ck.below HPre.out.three).wrt) (by have := HPre.out.three; omega))
      rw [bl_mk] at hq
      have HTT := Lib.hid ht2
      have HRR := Lib.hid hr
      clear ht ht2 hr HTX HRes
      go_wp2_with fail
      refine hq.out.mono ?_
      rintro e w2 ⟨rfl, hI2, hk2⟩
      have HPN2 := Lib.hid (HPN1.out.write HPre.out.pd hbb hI2 hk2)
      clear hI2 hk2 hq m0 m1 m2 m3
      go_wp2_with fail
      go_end0
      exact ⟨rfl, ⟨a + 1, halt, HRR.out.symm, by rw [HTT.out, bvals_app, ← List.append_assoc]; exact HPN2.out.ps⟩, HPN2.out.ck⟩
    · have hr := HRes.out
      rw [if_pos (by simp)] at hr
      obtain ⟨D', hD, hsubs⟩ := hr
      have hsubs : TJ.subs (TJ.sub D' false) false kids.toNat [] (l.drop (a + 1)) = some r := hsubs
      subst hD
      have ht := HTX.out
      rw [prt_node (by simp)] at ht
      have ht2 : t = kbytes key ky ++ [91] ++ (TJ.prts (TJ.prt D' false) kids.toNat false (l.drop (a + 1))).1 ++ [93] := ht
      have hkn : 0 ≤ kids := kids_nonneg HSO.out
      have hw := Lib.hid (WriteByte_calls B bb _ 91 wc HPN1.out.ps.b (by rw [List.length_append, bvals_length]; rw [ht2] at hlen; simp only [List.length_append, List.length_cons, List.length_nil] at hlen; omega) (Nat.le_trans HPre.out.low HPN1.out.ck.below.size))
      have HTT := Lib.hid ht2
      have HSS := Lib.hid hsubs
      clear ht ht2 hsubs HTX HRes
      go_wp2_with fail
      refine hw.out.mono ?_
      rintro e w2 ⟨rfl, hI2, hb2, ho2⟩
      have HPN2 := Lib.hid (HPN1.out.write HPre.out.pd hbb hI2 ⟨hb2, ho2⟩)
      obtain ⟨m0, m1, m2, m3⟩ : w2.cell? ⟨w.heap.size, 0, none⟩ = some (.int .i64 6) ∧ w2.cell? ⟨w.heap.size, 1, none⟩ = some (.string ⟨ky.toArray⟩) ∧ w2.cell? ⟨w.heap.size, 2, none⟩ = some (.string ⟨tx.toArray⟩) ∧ w2.cell? ⟨w.heap.size, 3, none⟩ = some (.int .i64 kids) :=
        ⟨(block_cells HPN2.out.nb).1 0 _ rfl, (block_cells HPN2.out.nb).1 1 _ rfl, (block_cells HPN2.out.nb).1 2 _ rfl, (block_cells HPN2.out.nb).1 3 _ rfl⟩
      clear hI2 hb2 ho2 hw
      go_wp2_with fail
      clear m0 m1 m2 m3
      have e0 : bs ++ bvals (kbytes key ky ++ [91]) = bs ++ bvals (kbytes key ky) ++ [.int .u8 91] := by simp [bvals]
      have E0 := Lib.hid e0
      clear e0
      go_loopw [30] (CloRel B vb ab bb fb (.slice (some ⟨b, o, none⟩) l.length cp) #[.int .i64 6, .string ⟨ky.toArray⟩, .string ⟨tx.toArray⟩, .int .i64 kids] w l r D' false kids 93 bs t) (fun s30 _ => (kids - intOf s30).toNat)
      case atStart => exact ⟨0, a + 1, kbytes key ky ++ [91], [], rfl, hkn, halt, by rw [E0.out]; exact HPN2.out, by simpa using HTT.out, by simpa using HSS.out⟩
      case round =>
        clear HPN1 HPN2 HTT HSS E0
        obtain ⟨k, a1, x, keys, rfl, hkk, ha1, hpn, htt, hss⟩ := hrel
        have HPN := Lib.hid hpn
        have HTT := Lib.hid htt
        have HSS := Lib.hid hss
        have hx : bs.length + x.length + 1 ≤ 1073741824 := by
          rw [htt] at hlen; simp only [List.length_append, List.length_cons, List.length_nil] at hlen; omega
        obtain ⟨m0, m3⟩ : wr.cell? ⟨w.heap.size, 0, none⟩ = some (.int .i64 6) ∧ wr.cell? ⟨w.heap.size, 3, none⟩ = some (.int .i64 kids) := ⟨(block_cells hpn.nb).1 0 _ rfl, (block_cells hpn.nb).1 3 _ rfl⟩
        clear hpn htt hss
        by_cases hlt : (k : Int) < kids
        · have hsk : (kids - (k : Int)).toNat = (kids - ((k + 1 : Nat) : Int)).toNat + 1 := by omega
          have hss := HSS.out
          have htt := HTT.out
          rw [hsk, TJ.subs] at hss
          rw [hsk, TJ.prts] at htt
          cases hq : TJ.sub D' false (l.drop a1) with
          | none => rw [hq] at hss; cases hss
          | some r1 =>
            rw [hq] at hss
            have hpr := prt_rest D' false (l.drop a1) r1 hq
            obtain ⟨keys', hss2⟩ : ∃ keys', TJ.subs (TJ.sub D' false) false (kids - ((k + 1 : Nat) : Int)).toNat keys' r1 = some r := by
              exact ⟨keys, by simpa using hss⟩
            generalize hpb : TJ.prt D' false (l.drop a1) = pq at *
            obtain ⟨pb, pr⟩ := pq
            obtain rfl : pr = r1 := hpr
            dsimp only at htt
            obtain ⟨y, hy⟩ : ∃ y, y = (TJ.prts (TJ.prt D' false) (kids - ((k + 1 : Nat) : Int)).toNat true pr).1 := ⟨_, rfl⟩
            rw [← hy] at htt
            have HY := Lib.hid hy
            have HSS2 := Lib.hid hss2
            clear hss hss2 hsk hy HSS HTT
            by_cases hk0 : k = 0
            · subst hk0
              have htt2 : t = x ++ (pb ++ y) ++ [93] := by rw [htt]; simp
              have HT2 := Lib.hid htt2
              have hcall := Lib.hid (IH.out D' rfl B vb ab bb fb _ l pr a1 false (bs ++ bvals x) wr (HPre.out.next HPN.out.ck.below) HPN.out.ps hq (by rw [hpb, List.length_append, bvals_length]; rw [htt2] at hlen; simp only [List.length_append, List.length_cons, List.length_nil] at hlen ⊢; omega))
              rw [hpb] at hcall
              have hf : wr.cell? ⟨fb, 0, none⟩ = some (.func (Fn.func 19) #[] #[.pointer (some ⟨vb, 0, none⟩), .pointer (some ⟨ab, 0, none⟩), .pointer (some ⟨bb, 0, none⟩), .pointer (some ⟨fb, 0, none⟩)]) := HPN.out.ps.cells.2.2.1
              clear htt htt2 hq hpb
              go_wp2_with fail
              refine hcall.out.mono ?_
              rintro e w3 ⟨rfl, ⟨a2, ha2, had2, hps2⟩, hck2⟩
              have HPN2 := Lib.hid (HPN.out.call hbb hab hps2 hck2)
              have HAD := Lib.hid had2
              have m3' : w3.cell? ⟨w.heap.size, 3, none⟩ = some (.int .i64 kids) := (block_cells HPN2.out.nb).1 3 _ rfl
              clear hps2 hck2 had2 hcall hf m0 m3
              go_wp2_with fail
              go_roundw
              case rel => exact ⟨1, a2, x ++ pb, keys', rfl, by omega, ha2, by rw [bvals_app, ← List.append_assoc]; exact HPN2.out, by rw [HT2.out, HAD.out, HY.out]; simp, by rw [HAD.out]; exact HSS2.out⟩
              case measure => simp [intOf]; omega
            · have hk1 : (0 : Int) < (k : Int) := by omega
              have htt2 : t = x ++ [44] ++ (pb ++ y) ++ [93] := by
                rw [htt]
                simp [hk0]
              have HT2 := Lib.hid htt2
              have hw := Lib.hid (WriteByte_calls B bb _ 44 wr HPN.out.ps.b (by rw [List.length_append, bvals_length]; omega) (Nat.le_trans HPre.out.low HPN.out.ck.below.size))
              have HPB := Lib.hid hpb
              have HQ := Lib.hid hq
              clear htt htt2 hk0 hq hpb
              go_wp2_with fail
              refine hw.out.mono ?_
              rintro e w2 ⟨rfl, hI2, hb2, ho2⟩
              have HPN1 := Lib.hid (HPN.out.write HPre.out.pd hbb hI2 ⟨hb2, ho2⟩)
              have hcall := Lib.hid (IH.out D' rfl B vb ab bb fb _ l pr a1 false _ w2 (HPre.out.next HPN1.out.ck.below) HPN1.out.ps HQ.out (by rw [HPB.out]; rw [HT2.out] at hlen; simp only [List.length_append, List.length_cons, List.length_nil, bvals_length] at hlen ⊢; omega))
              rw [HPB.out] at hcall
              have hf : w2.cell? ⟨fb, 0, none⟩ = some (.func (Fn.func 19) #[] #[.pointer (some ⟨vb, 0, none⟩), .pointer (some ⟨ab, 0, none⟩), .pointer (some ⟨bb, 0, none⟩), .pointer (some ⟨fb, 0, none⟩)]) := HPN1.out.ps.cells.2.2.1
              have m0' : w2.cell? ⟨w.heap.size, 0, none⟩ = some (.int .i64 6) := (block_cells HPN1.out.nb).1 0 _ rfl
              clear hI2 hb2 ho2 hw m0 m3
              go_wp2_with fail
              refine hcall.out.mono ?_
              rintro e w3 ⟨rfl, ⟨a2, ha2, had2, hps2⟩, hck2⟩
              have HPN2 := Lib.hid (HPN1.out.call hbb hab hps2 hck2)
              have HAD := Lib.hid had2
              have m3' : w3.cell? ⟨w.heap.size, 3, none⟩ = some (.int .i64 kids) := (block_cells HPN2.out.nb).1 3 _ rfl
              have e1 : bs ++ bvals (x ++ [44] ++ pb) = bs ++ bvals x ++ [.int .u8 44] ++ bvals pb := by simp [bvals]
              have E1 := Lib.hid e1
              clear hps2 hck2 had2 hcall hf m0' e1
              go_wp2_with fail
              go_roundw
              case rel => exact ⟨k + 1, a2, x ++ [44] ++ pb, keys', by go_num, by omega, ha2, by rw [E1.out]; exact HPN2.out, by rw [HT2.out, HAD.out, HY.out]; simp, by rw [HAD.out]; exact HSS2.out⟩
              case measure => simp [intOf]; omega
        · have hke : (kids - (k : Int)).toNat = 0 := by omega
          have hss := HSS.out
          have htt := HTT.out
          rw [hke, TJ.subs] at hss
          rw [hke, TJ.prts] at htt
          have htt2 : t = x ++ [93] := by rw [htt]; simp
          have hr2 : l.drop a1 = r := Option.some.inj hss
          have HT2 := Lib.hid htt2
          have HR2 := Lib.hid hr2
          have hw := Lib.hid (WriteByte_calls B bb _ 93 wr HPN.out.ps.b (by rw [List.length_append, bvals_length]; omega) (Nat.le_trans HPre.out.low HPN.out.ck.below.size))
          have e1 : bs ++ bvals t = bs ++ bvals x ++ [.int .u8 93] := by rw [htt2]; simp [bvals]
          have E1 := Lib.hid e1
          clear hss htt htt2 hr2 hke HSS HTT e1
          go_wp2_with fail
          refine hw.out.mono ?_
          rintro e w2 ⟨rfl, hI2, hb2, ho2⟩
          have HPN2 := Lib.hid (HPN.out.write HPre.out.pd hbb hI2 ⟨hb2, ho2⟩)
          clear hI2 hb2 ho2 hw m0 m3
          go_wp2_with fail
          go_end0
          exact ⟨rfl, ⟨a1, ha1, HR2.out, by rw [E1.out]; exact HPN2.out.ps⟩, HPN2.out.ck⟩
    · have hr := HRes.out
      rw [if_pos (by simp)] at hr
      obtain ⟨D', hD, hsubs⟩ := hr
      have hsubs : TJ.subs (TJ.sub D' true) true kids.toNat [] (l.drop (a + 1)) = some r := hsubs
      subst hD
      have ht := HTX.out
      rw [prt_node (by simp)] at ht
      have ht2 : t = kbytes key ky ++ [123] ++ (TJ.prts (TJ.prt D' true) kids.toNat false (l.drop (a + 1))).1 ++ [125] := ht
      have hkn : 0 ≤ kids := kids_nonneg HSO.out
      have hw := Lib.hid (WriteByte_calls B bb _ 123 wc HPN1.out.ps.b (by rw [List.length_append, bvals_length]; rw [ht2] at hlen; simp only [List.length_append, List.length_cons, List.length_nil] at hlen; omega) (Nat.le_trans HPre.out.low HPN1.out.ck.below.size))
      have HTT := Lib.hid ht2
      have HSS := Lib.hid hsubs
      clear ht ht2 hsubs HTX HRes
      go_wp2_with fail
      refine hw.out.mono ?_
      rintro e w2 ⟨rfl, hI2, hb2, ho2⟩
      have HPN2 := Lib.hid (HPN1.out.write HPre.out.pd hbb hI2 ⟨hb2, ho2⟩)
      obtain ⟨m0, m1, m2, m3⟩ : w2.cell? ⟨w.heap.size, 0, none⟩ = some (.int .i64 7) ∧ w2.cell? ⟨w.heap.size, 1, none⟩ = some (.string ⟨ky.toArray⟩) ∧ w2.cell? ⟨w.heap.size, 2, none⟩ = some (.string ⟨tx.toArray⟩) ∧ w2.cell? ⟨w.heap.size, 3, none⟩ = some (.int .i64 kids) :=
        ⟨(block_cells HPN2.out.nb).1 0 _ rfl, (block_cells HPN2.out.nb).1 1 _ rfl, (block_cells HPN2.out.nb).1 2 _ rfl, (block_cells HPN2.out.nb).1 3 _ rfl⟩
      clear hI2 hb2 ho2 hw
      go_wp2_with fail
      clear m0 m1 m2 m3
      have e0 : bs ++ bvals (kbytes key ky ++ [123]) = bs ++ bvals (kbytes key ky) ++ [.int .u8 123] := by simp [bvals]
      have E0 := Lib.hid e0
      clear e0
      go_loopw [30] (CloRel B vb ab bb fb (.slice (some ⟨b, o, none⟩) l.length cp) #[.int .i64 7, .string ⟨ky.toArray⟩, .string ⟨tx.toArray⟩, .int .i64 kids] w l r D' true kids 125 bs t) (fun s30 _ => (kids - intOf s30).toNat)
      case atStart => exact ⟨0, a + 1, kbytes key ky ++ [123], [], rfl, hkn, halt, by rw [E0.out]; exact HPN2.out, by simpa using HTT.out, by simpa using HSS.out⟩
      case round =>
        clear HPN1 HPN2 HTT HSS E0
        obtain ⟨k, a1, x, keys, rfl, hkk, ha1, hpn, htt, hss⟩ := hrel
        have HPN := Lib.hid hpn
        have HTT := Lib.hid htt
        have HSS := Lib.hid hss
        have hx : bs.length + x.length + 1 ≤ 1073741824 := by
          rw [htt] at hlen; simp only [List.length_append, List.length_cons, List.length_nil] at hlen; omega
        obtain ⟨m0, m3⟩ : wr.cell? ⟨w.heap.size, 0, none⟩ = some (.int .i64 7) ∧ wr.cell? ⟨w.heap.size, 3, none⟩ = some (.int .i64 kids) := ⟨(block_cells hpn.nb).1 0 _ rfl, (block_cells hpn.nb).1 3 _ rfl⟩
        clear hpn htt hss
        by_cases hlt : (k : Int) < kids
        · have hsk : (kids - (k : Int)).toNat = (kids - ((k + 1 : Nat) : Int)).toNat + 1 := by omega
          have hss := HSS.out
          have htt := HTT.out
          rw [hsk, TJ.subs] at hss
          rw [hsk, TJ.prts] at htt
          cases hq : TJ.sub D' true (l.drop a1) with
          | none => rw [hq] at hss; cases hss
          | some r1 =>
            rw [hq] at hss
            have hpr := prt_rest D' true (l.drop a1) r1 hq
            obtain ⟨keys', hss2⟩ : ∃ keys', TJ.subs (TJ.sub D' true) true (kids - ((k + 1 : Nat) : Int)).toNat keys' r1 = some r := by
              dsimp only at hss
              split at hss
              · split at hss
                · cases hss
                · exact ⟨_, hss⟩
              · exact ⟨_, hss⟩
            generalize hpb : TJ.prt D' true (l.drop a1) = pq at *
            obtain ⟨pb, pr⟩ := pq
            obtain rfl : pr = r1 := hpr
            dsimp only at htt
            obtain ⟨y, hy⟩ : ∃ y, y = (TJ.prts (TJ.prt D' true) (kids - ((k + 1 : Nat) : Int)).toNat true pr).1 := ⟨_, rfl⟩
            rw [← hy] at htt
            have HY := Lib.hid hy
            have HSS2 := Lib.hid hss2
            clear hss hss2 hsk hy HSS HTT
            by_cases hk0 : k = 0
            · subst hk0
              have htt2 : t = x ++ (pb ++ y) ++ [125] := by rw [htt]; simp
              have HT2 := Lib.hid htt2
              have hcall := Lib.hid (IH.out D' rfl B vb ab bb fb _ l pr a1 true (bs ++ bvals x) wr (HPre.out.next HPN.out.ck.below) HPN.out.ps hq (by rw [hpb, List.length_append, bvals_length]; rw [htt2] at hlen; simp only [List.length_append, List.length_cons, List.length_nil] at hlen ⊢; omega))
              rw [hpb] at hcall
              have hf : wr.cell? ⟨fb, 0, none⟩ = some (.func (Fn.func 19) #[] #[.pointer (some ⟨vb, 0, none⟩), .pointer (some ⟨ab, 0, none⟩), .pointer (some ⟨bb, 0, none⟩), .pointer (some ⟨fb, 0, none⟩)]) := HPN.out.ps.cells.2.2.1
              clear htt htt2 hq hpb
              go_wp2_with fail
              refine hcall.out.mono ?_
              rintro e w3 ⟨rfl, ⟨a2, ha2, had2, hps2⟩, hck2⟩
              have HPN2 := Lib.hid (HPN.out.call hbb hab hps2 hck2)
              have HAD := Lib.hid had2
              have m3' : w3.cell? ⟨w.heap.size, 3, none⟩ = some (.int .i64 kids) := (block_cells HPN2.out.nb).1 3 _ rfl
              clear hps2 hck2 had2 hcall hf m0 m3
              go_wp2_with fail
              go_roundw
              case rel => exact ⟨1, a2, x ++ pb, keys', rfl, by omega, ha2, by rw [bvals_app, ← List.append_assoc]; exact HPN2.out, by rw [HT2.out, HAD.out, HY.out]; simp, by rw [HAD.out]; exact HSS2.out⟩
              case measure => simp [intOf]; omega
            · have hk1 : (0 : Int) < (k : Int) := by omega
              have htt2 : t = x ++ [44] ++ (pb ++ y) ++ [125] := by
                rw [htt]
                simp [hk0]
              have HT2 := Lib.hid htt2
              have hw := Lib.hid (WriteByte_calls B bb _ 44 wr HPN.out.ps.b (by rw [List.length_append, bvals_length]; omega) (Nat.le_trans HPre.out.low HPN.out.ck.below.size))
              have HPB := Lib.hid hpb
              have HQ := Lib.hid hq
              clear htt htt2 hk0 hq hpb
              go_wp2_with fail
              refine hw.out.mono ?_
              rintro e w2 ⟨rfl, hI2, hb2, ho2⟩
              have HPN1 := Lib.hid (HPN.out.write HPre.out.pd hbb hI2 ⟨hb2, ho2⟩)
              have hcall := Lib.hid (IH.out D' rfl B vb ab bb fb _ l pr a1 true _ w2 (HPre.out.next HPN1.out.ck.below) HPN1.out.ps HQ.out (by rw [HPB.out]; rw [HT2.out] at hlen; simp only [List.length_append, List.length_cons, List.length_nil, bvals_length] at hlen ⊢; omega))
              rw [HPB.out] at hcall
              have hf : w2.cell? ⟨fb, 0, none⟩ = some (.func (Fn.func 19) #[] #[.pointer (some ⟨vb, 0, none⟩), .pointer (some ⟨ab, 0, none⟩), .pointer (some ⟨bb, 0, none⟩), .pointer (some ⟨fb, 0, none⟩)]) := HPN1.out.ps.cells.2.2.1
              have m0' : w2.cell? ⟨w.heap.size, 0, none⟩ = some (.int .i64 7) := (block_cells HPN1.out.nb).1 0 _ rfl
              clear hI2 hb2 ho2 hw m0 m3
              go_wp2_with fail
              refine hcall.out.mono ?_
              rintro e w3 ⟨rfl, ⟨a2, ha2, had2, hps2⟩, hck2⟩
              have HPN2 := Lib.hid (HPN1.out.call hbb hab hps2 hck2)
              have HAD := Lib.hid had2
              have m3' : w3.cell? ⟨w.heap.size, 3, none⟩ = some (.int .i64 kids) := (block_cells HPN2.out.nb).1 3 _ rfl
              have e1 : bs ++ bvals (x ++ [44] ++ pb) = bs ++ bvals x ++ [.int .u8 44] ++ bvals pb := by simp [bvals]
              have E1 := Lib.hid e1
              clear hps2 hck2 had2 hcall hf m0' e1
              go_wp2_with fail
              go_roundw
              case rel => exact ⟨k + 1, a2, x ++ [44] ++ pb, keys', by go_num, by omega, ha2, by rw [E1.out]; exact HPN2.out, by rw [HT2.out, HAD.out, HY.out]; simp, by rw [HAD.out]; exact HSS2.out⟩
              case measure => simp [intOf]; omega
        · have hke : (kids - (k : Int)).toNat = 0 := by omega
          have hss := HSS.out
          have htt := HTT.out
          rw [hke, TJ.subs] at hss
          rw [hke, TJ.prts] at htt
          have htt2 : t = x ++ [125] := by rw [htt]; simp
          have hr2 : l.drop a1 = r := Option.some.inj hss
          have HT2 := Lib.hid htt2
          have HR2 := Lib.hid hr2
          have hw := Lib.hid (WriteByte_calls B bb _ 125 wr HPN.out.ps.b (by rw [List.length_append, bvals_length]; omega) (Nat.le_trans HPre.out.low HPN.out.ck.below.size))
          have e1 : bs ++ bvals t = bs ++ bvals x ++ [.int .u8 125] := by rw [htt2]; simp [bvals]
          have E1 := Lib.hid e1
          clear hss htt htt2 hr2 hke HSS HTT e1
          go_wp2_with fail
          refine hw.out.mono ?_
          rintro e w2 ⟨rfl, hI2, hb2, ho2⟩
          have HPN2 := Lib.hid (HPN.out.write HPre.out.pd hbb hI2 ⟨hb2, ho2⟩)
          clear hI2 hb2 ho2 hw m0 m3
          go_wp2_with fail
          go_end0
          exact ⟨rfl, ⟨a1, ha1, HR2.out, by rw [E1.out]; exact HPN2.out.ps⟩, HPN2.out.ck⟩
end Go.Proofs.YtdhdeaknflekpaaDoor
