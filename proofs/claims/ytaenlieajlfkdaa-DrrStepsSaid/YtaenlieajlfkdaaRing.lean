/- A ring in memory. -/
import Derived.Test.YtaenlieajlfkdaaDrr3
namespace Go.Proofs.Ytaenlieajlfkdaa
open Go.RowKit Go.Maps
set_option linter.unusedVariables false
set_option linter.unusedSimpArgs false

theorem ne_of {w : World} {k k' : Nat} {c c' : Array Value} {t t' : TypeId} {f f' : Nat × Nat} (h : w.heap[k]? = some (.cells c t f)) (h' : w.heap[k']? = some (.cells c' t' f')) (ht : t ≠ t') : k ≠ k' := by
  rintro rfl
  rw [h] at h'
  injection h' with h'
  injection h' with _ h'
  exact ht h'
theorem ne_map {w : World} {k k' : Nat} {c : Array Value} {t : TypeId} {f : Nat × Nat} {es : Array MapEntry} {cl : Nat} (h : w.heap[k]? = some (.cells c t f)) (h' : w.heap[k']? = some (.map es cl)) : k ≠ k' := by
  rintro rfl
  rw [h] at h'
  injection h' with h'
  cases h'
theorem heap_lt {w : World} {k : Nat} {o : Obj} (h : w.heap[k]? = some o) : k < w.heap.size := (Array.getElem?_eq_some_iff.1 h).1

theorem Win.same {w w' : World} {S : Nat → Prop} {e : TypeId} {v : Value} {xs : List Value} (h : Win w S e v xs) (hs : ∀ k, v.ownBlock = some k → w'.heap[k]? = w.heap[k]?) : Win w' S e v xs := by
  rcases h with hn | ⟨g, o, cap, cur, rfl, hb, hgg, rest⟩
  · exact .inl hn
  · exact .inr ⟨g, o, cap, cur, rfl, hb, (hs g rfl).trans hgg, rest⟩
theorem MapIs.same {w w' : World} {S : Nat → Prop} {M : Value} {ad : Int → Option Nat} {n : Nat} (h : MapIs w S M ad n) (hs : ∀ m, M = .map (some m) → w'.heap[m]? = w.heap[m]?) : MapIs w' S M ad n := by
  rcases h with h | ⟨m, D, rfl, hS, ⟨es, cl, hb, r⟩, r'⟩
  · exact .inl h
  · exact .inr ⟨m, D, rfl, hS, ⟨es, cl, (hs m rfl).trans hb, r⟩, r'⟩

/-- All that S does not know is as it was. -/
structure Moved (w w' : World) (S : Nat → Prop) : Prop where
  os : w'.os = w.os
  tape : w'.tape = w.tape
  output : w'.output = w.output
  size : w.heap.size ≤ w'.heap.size
  block : ∀ k, k < w.heap.size → ¬ S k → w'.heap[k]? = w.heap[k]?
theorem Moved.refl (w : World) (S : Nat → Prop) : Moved w w S := ⟨rfl, rfl, rfl, Nat.le_refl _, fun _ _ _ => rfl⟩
theorem Moved.trans {a b c : World} {S : Nat → Prop} (h : Moved a b S) (k : Moved b c S) : Moved a c S :=
  ⟨k.os.trans h.os, k.tape.trans h.tape, k.output.trans h.output, Nat.le_trans h.size k.size, fun i hi hS => (k.block i (Nat.lt_of_lt_of_le hi h.size) hS).trans (h.block i hi hS)⟩
theorem Moved.of_grown {a b : World} {S : Nat → Prop} {row : Option Nat} (h : a.grownBy b row) (hr : ∀ k, row = some k → S k) : Moved a b S :=
  ⟨h.os, h.tape, h.output, h.size, fun i hi hS => h.block i hi (fun e => hS (hr i e.symm))⟩
theorem Moved.below {a b : World} {S : Nat → Prop} {B : Nat} {w : World} (h : Moved a b S) (hw : Below B w a) (hB : ∀ k, S k → B ≤ k) (hBa : B ≤ a.heap.size) : Below B w b :=
  ⟨h.os.trans hw.os, h.tape.trans hw.tape, h.output.trans hw.output, Nat.le_trans hw.size h.size, fun k hk => (h.block k (by omega) (fun hS => by have := hB k hS; omega)).trans (hw.block k hk)⟩

def adr (ad : Int → Option Nat) (n : Int) : Nat := (ad n).getD 0
theorem adr_some {ad : Int → Option Nat} {n : Int} {b : Nat} (h : ad n = some b) : adr ad n = b := by simp [adr, h]
def blks (ad : Int → Option Nat) (row : List Int) : List Nat := row.map (adr ad)
def setF (st : Int → FS) (n : Int) (f : FS) : Int → FS := fun k => if k = n then f else st k
theorem setF_at (st : Int → FS) (n : Int) (f : FS) : setF st n f n = f := if_pos rfl
theorem setF_ne (st : Int → FS) {n k : Int} (f : FS) (h : k ≠ n) : setF st n f k = st k := if_neg h
def setV (cv : Int → Value) (n : Int) (v : Value) : Int → Value := fun k => if k = n then v else cv k

structure RgE (w : World) (S : Nat → Prop) (g : Nat) (M rv : Value) (cv : Int → Value) (ad : Int → Option Nat) (st : Int → FS) (row : List Int) (N : Nat) : Prop where
  ring : Blk w g 28 #[M, rv]
  gS : S g
  map : MapIs w S M ad N
  fl : ∀ n b, ad n = some b → S b ∧ FlB w b n (st n) (cv n)
  cs : ∀ n b, ad n = some b → Win w S 3 (cv n) (ints (st n).cs)
  rwin : Win w S 57 rv (ptrs (blks ad row))
  rin : ∀ n, n ∈ row → ∃ b, ad n = some b
  nd : row.Nodup
  dis : ∀ n n' b b' k, n ≠ n' → ad n = some b → ad n' = some b' → (cv n).ownBlock = some k → (cv n').ownBlock ≠ some k
  key : ∀ n b, ad n = some b → 0 ≤ n ∧ n ≤ 8
  len : ∀ n b, ad n = some b → (st n).cs.length ≤ N

section
variable {w w' : World} {S : Nat → Prop} {g : Nat} {M rv : Value} {cv : Int → Value} {ad : Int → Option Nat} {st : Int → FS} {row : List Int} {N : Nat}
theorem RgE.inj (h : RgE w S g M rv cv ad st row N) {n n' : Int} {b : Nat} (hn : ad n = some b) (hn' : ad n' = some b) : n = n' := by
  have h1 := (h.fl n b hn).2.c0
  have h2 := (h.fl n' b hn').2.c0
  rw [h1] at h2
  injection h2 with h2
  injection h2
theorem RgE.cel (h : RgE w S g M rv cv ad st row N) {x : Nat} (hx : x ∈ blks ad row) : Cel w x := by
  obtain ⟨n, hn, rfl⟩ := List.mem_map.1 hx
  obtain ⟨b, hb⟩ := h.rin n hn
  rw [adr_some hb]
  exact ⟨_, _, (h.fl n b hb).2⟩
theorem blks_erase {n : Int} {b : Nat} : ∀ {row : List Int}, (∀ m, m ∈ row → (adr ad m = b ↔ m = n)) → adr ad n = b → blks ad (row.erase n) = (blks ad row).erase b
  | [], _, _ => rfl
  | m :: row, hm, hb => by
    by_cases e : m = n
    · subst e
      have : blks ad (m :: row) = adr ad m :: blks ad row := rfl
      rw [this, hb]
      simp
    · have e2 : adr ad m ≠ b := fun h => e ((hm m (by simp)).1 h)
      rw [List.erase_cons_tail (by simpa using e)]
      show adr ad m :: blks ad (row.erase n) = (adr ad m :: blks ad row).erase b
      rw [List.erase_cons_tail (by simpa using e2), blks_erase (fun k hk => hm k (by simp [hk])) hb]
theorem blks_nodup (hinj : ∀ n n', n ∈ row → n' ∈ row → adr ad n = adr ad n' → n = n') (nd : row.Nodup) : (blks ad row).Nodup := by
  induction row with
  | nil => exact List.nodup_nil
  | cons m row ih =>
    rw [List.nodup_cons] at nd
    show (adr ad m :: blks ad row).Nodup
    rw [List.nodup_cons]
    refine ⟨fun hm => ?_, ih (fun n n' hn hn' => hinj n n' (by simp [hn]) (by simp [hn'])) nd.2⟩
    obtain ⟨k, hk, e⟩ := List.mem_map.1 hm
    have := hinj k m (by simp [hk]) (by simp) e
    exact nd.1 (this ▸ hk)
theorem RgE.adr_inj (h : RgE w S g M rv cv ad st row N) : ∀ n n', n ∈ row → n' ∈ row → adr ad n = adr ad n' → n = n' := by
  intro n n' hn hn' e
  obtain ⟨b, hb⟩ := h.rin n hn
  obtain ⟨b', hb'⟩ := h.rin n' hn'
  rw [adr_some hb, adr_some hb'] at e
  exact h.inj hb (e ▸ hb')
theorem RgE.bnd (h : RgE w S g M rv cv ad st row N) : (blks ad row).Nodup := blks_nodup h.adr_inj h.nd

theorem nodup_len {α : Type} [BEq α] [LawfulBEq α] : ∀ {l l' : List α}, l.Nodup → (∀ x, x ∈ l → x ∈ l') → l.length ≤ l'.length
  | [], _, _, _ => Nat.zero_le _
  | x :: l, l', nd, hs => by
    rw [List.nodup_cons] at nd
    have hx : x ∈ l' := hs x (by simp)
    have := nodup_len (l := l) (l' := l'.erase x) nd.2 (fun y hy => by
      have hne : y ≠ x := fun e => nd.1 (e ▸ hy)
      rw [List.mem_erase_of_ne hne]
      exact hs y (by simp [hy]))
    rw [List.length_erase_of_mem hx] at this
    have hp : 0 < l'.length := List.length_pos_of_mem hx
    simp only [List.length_cons]
    omega
theorem RgE.rowlen (h : RgE w S g M rv cv ad st row N) : row.length ≤ 9 := by
  refine nodup_len (l' := [0, 1, 2, 3, 4, 5, 6, 7, 8]) h.nd fun n hn => ?_
  obtain ⟨b, hb⟩ := h.rin n hn
  have := h.key n b hb
  obtain ⟨h0, h8⟩ := this
  have : n = 0 ∨ n = 1 ∨ n = 2 ∨ n = 3 ∨ n = 4 ∨ n = 5 ∨ n = 6 ∨ n = 7 ∨ n = 8 := by omega
  simpa using this

theorem RgE.more {S' : Nat → Prop} (h : RgE w S g M rv cv ad st row N) (hS : ∀ k, S k → k < w.heap.size → S' k) : RgE w S' g M rv cv ad st row N :=
  ⟨h.ring, hS g h.gS h.ring.lt, h.map.more hS, fun n b hb => ⟨hS b (h.fl n b hb).1 (Blk.lt (h.fl n b hb).2), (h.fl n b hb).2⟩, fun n b hb => (h.cs n b hb).more hS, h.rwin.more hS, h.rin, h.nd, h.dis, h.key, h.len⟩
theorem RgE.mono {N' : Nat} (h : RgE w S g M rv cv ad st row N) (hN : N ≤ N') : RgE w S g M rv cv ad st row N' :=
  ⟨h.ring, h.gS, h.map.mono hN, h.fl, h.cs, h.rwin, h.rin, h.nd, h.dis, h.key, fun n b hb => Nat.le_trans (h.len n b hb) hN⟩
/-- A step that leaves all that S knows. -/
theorem RgE.same (h : RgE w S g M rv cv ad st row N) (hs : ∀ k, S k → k < w.heap.size → w'.heap[k]? = w.heap[k]?) : RgE w' S g M rv cv ad st row N := by
  refine ⟨(hs g h.gS h.ring.lt).trans h.ring, h.gS, h.map.same ?_, fun n b hb => ⟨(h.fl n b hb).1, (hs b (h.fl n b hb).1 (Blk.lt (h.fl n b hb).2)).trans (h.fl n b hb).2⟩, fun n b hb => (h.cs n b hb).same ?_, h.rwin.same ?_, h.rin, h.nd, h.dis, h.key, h.len⟩
  · intro m e
    have := h.map
    rw [e] at this
    obtain ⟨hS, es, c, hm⟩ := this.lt
    exact hs m hS (heap_lt hm)
  · intro k hk
    obtain ⟨hS, cur, hc⟩ := (h.cs n b hb).lt k hk
    exact hs k hS (heap_lt hc)
  · intro k hk
    obtain ⟨hS, cur, hc⟩ := h.rwin.lt k hk
    exact hs k hS (heap_lt hc)
theorem RgE.below (h : RgE w S g M rv cv ad st row N) (hb : Below w.heap.size w w') : RgE w' S g M rv cv ad st row N := h.same fun k _ hk => hb.block k hk
theorem RgE.alloc (h : RgE w S g M rv cv ad st row N) (o : Obj) : RgE (w.alloc o) S g M rv cv ad st row N := h.below ((Below.refl _ _).alloc (Nat.le_refl _) o)
theorem RgE.drewN (h : RgE w S g M rv cv ad st row N) (n : Nat) : RgE (w.drewN n) S g M rv cv ad st row N := h.same fun _ _ _ => rfl

/-- A flow's block is written; its costs stand. -/
theorem RgE.flow (h : RgE w S g M rv cv ad st row N) {n : Int} {b : Nat} (hn : ad n = some b) {f' : FS} (hs : ∀ k, k < w.heap.size → k ≠ b → w'.heap[k]? = w.heap[k]?) (hf : FlB w' b n f' (cv n)) (hcs : f'.cs = (st n).cs) :
    RgE w' S g M rv cv ad (setF st n f') row N := by
  have hb := (h.fl n b hn).2
  refine ⟨(hs g h.ring.lt (ne_of h.ring hb (by decide))).trans h.ring, h.gS, h.map.same ?_, fun m c hc => ?_, fun m c hc => ?_, h.rwin.same ?_, h.rin, h.nd, h.dis, h.key, fun m c hc => ?_⟩
  · intro m e
    have := h.map
    rw [e] at this
    obtain ⟨hS, es, c, hm⟩ := this.lt
    exact hs m (heap_lt hm) (fun e' => ne_map hb hm e'.symm)
  · by_cases e : m = n
    · subst e
      rw [hn] at hc; injection hc with hc; subst hc
      rw [setF_at]
      exact ⟨(h.fl m b hn).1, hf⟩
    · rw [setF_ne _ _ e]
      have hbc : c ≠ b := fun e' => e (h.inj hc (e' ▸ hn))
      exact ⟨(h.fl m c hc).1, (hs c (Blk.lt (h.fl m c hc).2) hbc).trans (h.fl m c hc).2⟩
  · have key : Win w' S 3 (cv m) (ints (st m).cs) := (h.cs m c hc).same fun k hk => by
      obtain ⟨_, cur, hcur⟩ := (h.cs m c hc).lt k hk
      exact hs k (heap_lt hcur) (ne_of hcur hb (by decide))
    by_cases e : m = n
    · subst e; rw [setF_at, hcs]; exact key
    · rw [setF_ne _ _ e]; exact key
  · intro k hk
    obtain ⟨_, cur, hcur⟩ := h.rwin.lt k hk
    exact hs k (heap_lt hcur) (ne_of hcur hb (by decide))
  · by_cases e : m = n
    · subst e; rw [setF_at, hcs]; exact h.len m c hc
    · rw [setF_ne _ _ e]; exact h.len m c hc

/-- The row is another. -/
theorem RgE.rowm (h : RgE w S g M rv cv ad st row N) {rv' : Value} {row' : List Int} (hs : ∀ k, k < w.heap.size → k ≠ g → rv.ownBlock ≠ some k → w'.heap[k]? = w.heap[k]?) (hr : Blk w' g 28 #[M, rv']) (hw : Win w' S 57 rv' (ptrs (blks ad row')))
    (hin : ∀ n, n ∈ row' → ∃ b, ad n = some b) (hnd : row'.Nodup) : RgE w' S g M rv' cv ad st row' N := by
  have ho : ∀ {k : Nat} {cs : Array Value} {t : TypeId} {fz : Nat × Nat}, w.heap[k]? = some (.cells cs t fz) → t ≠ 28 → t ≠ 57 → w'.heap[k]? = w.heap[k]? := fun hk h1 h2 =>
    hs _ (heap_lt hk) (ne_of hk h.ring h1) (fun e => by
      obtain ⟨_, cur, hcur⟩ := h.rwin.lt _ e
      exact ne_of hk hcur h2 rfl)
  refine ⟨hr, h.gS, h.map.same ?_, fun m c hc => ⟨(h.fl m c hc).1, (ho (h.fl m c hc).2 (by decide) (by decide)).trans (h.fl m c hc).2⟩, fun m c hc => (h.cs m c hc).same fun k hk => ?_, hw, hin, hnd, h.dis, h.key, h.len⟩
  · intro m e
    have := h.map
    rw [e] at this
    obtain ⟨hS, es, c, hm⟩ := this.lt
    refine hs m (heap_lt hm) (fun e' => ne_map h.ring hm e'.symm) (fun e' => ?_)
    obtain ⟨_, cur, hcur⟩ := h.rwin.lt _ e'
    exact ne_map hcur hm rfl
  · obtain ⟨_, cur, hcur⟩ := (h.cs m c hc).lt k hk
    exact ho hcur (by decide) (by decide)

/-- A flow's costs are others. -/
theorem RgE.costs (h : RgE w S g M rv cv ad st row N) {n : Int} {b : Nat} (hn : ad n = some b) {f' : FS} {cvn : Value} (hs : ∀ k, k < w.heap.size → k ≠ b → (cv n).ownBlock ≠ some k → w'.heap[k]? = w.heap[k]?) (hf : FlB w' b n f' cvn)
    (hw : Win w' S 3 cvn (ints f'.cs)) (hor : ∀ k, cvn.ownBlock = some k → (cv n).ownBlock = some k ∨ w.heap.size ≤ k) {N' : Nat} (hN : N ≤ N') (hlen : f'.cs.length ≤ N') :
    RgE w' S g M rv (setV cv n cvn) ad (setF st n f') row N' := by
  have hb := (h.fl n b hn).2
  have ho : ∀ {k : Nat} {cs : Array Value} {t : TypeId} {fz : Nat × Nat}, w.heap[k]? = some (.cells cs t fz) → t ≠ 59 → t ≠ 3 → w'.heap[k]? = w.heap[k]? := fun hk h1 h2 =>
    hs _ (heap_lt hk) (ne_of hk hb h1) (fun e => by
      obtain ⟨_, cur, hcur⟩ := (h.cs n b hn).lt _ e
      exact ne_of hk hcur h2 rfl)
  have hvat : setV cv n cvn n = cvn := if_pos rfl
  have hvne : ∀ m, m ≠ n → setV cv n cvn m = cv m := fun m e => if_neg e
  refine ⟨(ho h.ring (by decide) (by decide)).trans h.ring, h.gS, (h.map.same ?_).mono hN, fun m c hc => ?_, fun m c hc => ?_, h.rwin.same ?_, h.rin, h.nd, ?_, h.key, fun m c hc => ?_⟩
  · intro m e
    have := h.map
    rw [e] at this
    obtain ⟨hS, es, c, hm⟩ := this.lt
    refine hs m (heap_lt hm) (fun e' => ne_map hb hm e'.symm) (fun e' => ?_)
    obtain ⟨_, cur, hcur⟩ := (h.cs n b hn).lt _ e'
    exact ne_map hcur hm rfl
  · by_cases e : m = n
    · subst e
      rw [hn] at hc; injection hc with hc; subst hc
      rw [setF_at, hvat]
      exact ⟨(h.fl m b hn).1, hf⟩
    · rw [setF_ne _ _ e, hvne m e]
      have hbc : c ≠ b := fun e' => e (h.inj hc (e' ▸ hn))
      refine ⟨(h.fl m c hc).1, (hs c (Blk.lt (h.fl m c hc).2) hbc (fun e' => ?_)).trans (h.fl m c hc).2⟩
      obtain ⟨_, cur, hcur⟩ := (h.cs n b hn).lt _ e'
      exact ne_of (h.fl m c hc).2 hcur (by decide) rfl
  · by_cases e : m = n
    · subst e; rw [setF_at, hvat]; exact hw
    · rw [setF_ne _ _ e, hvne m e]
      refine (h.cs m c hc).same fun k hk => ?_
      obtain ⟨_, cur, hcur⟩ := (h.cs m c hc).lt k hk
      exact hs k (heap_lt hcur) (ne_of hcur hb (by decide)) (fun e' => h.dis m n c b k e hc hn hk e')
  · intro k hk
    obtain ⟨_, cur, hcur⟩ := h.rwin.lt k hk
    exact ho hcur (by decide) (by decide)
  · intro m m' c c' k hne hc hc' hk hk'
    by_cases e : m = n
    · subst e
      rw [hvat] at hk
      rw [hvne m' (fun e => hne e.symm)] at hk'
      rcases hor k hk with h1 | h1
      · exact h.dis m m' c c' k hne hc hc' h1 hk'
      · obtain ⟨_, cur, hcur⟩ := (h.cs m' c' hc').lt k hk'
        have := heap_lt hcur
        omega
    · rw [hvne m e] at hk
      by_cases e' : m' = n
      · subst e'
        rw [hvat] at hk'
        rcases hor k hk' with h1 | h1
        · exact h.dis m m' c c' k hne hc hc' hk h1
        · obtain ⟨_, cur, hcur⟩ := (h.cs m c hc).lt k hk
          have := heap_lt hcur
          omega
      · rw [hvne m' e'] at hk'
        exact h.dis m m' c c' k hne hc hc' hk hk'
  · by_cases e : m = n
    · subst e; rw [setF_at]; exact hlen
    · rw [setF_ne _ _ e]; exact Nat.le_trans (h.len m c hc) hN
end
end Go.Proofs.Ytaenlieajlfkdaa
