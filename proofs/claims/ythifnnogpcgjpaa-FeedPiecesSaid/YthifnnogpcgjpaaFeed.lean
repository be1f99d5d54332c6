/- What the methods of feed.Feed do. -/
import Derived.Test.YthifnnogpcgjpaaTake
import Derived.Test.YthifnnogpcgjpaaFeedSpec
import Derived.Test.YthifnnogpcgjpaaApp
import Derived.OwnWalk
import Derived.WalkMore
import Derived.ScopeJumps
namespace Go.Proofs.Ythifnnogpcgjpaa
open Go.RowKit
set_option linter.unusedSimpArgs false

def Fd (w : World) (g : Nat) (r : ByteArray) (e : Int) : Prop := Blk w g 50 #[.string r, .int .i64 e]
section
variable {w : World} {g : Nat} {r : ByteArray} {e : Int}
theorem Fd.c0 (h : Fd w g r e) : w.cell? ⟨g, 0, none⟩ = some (.string r) := by have := Blk.cell h 0; simpa using this
theorem Fd.c1 (h : Fd w g r e) : w.cell? ⟨g, 1, none⟩ = some (.int .i64 e) := by have := Blk.cell h 1; simpa using this
theorem Fd.fz (h : Fd w g r e) (i : Nat) : w.frozen? ⟨g, i, none⟩ = false := Blk.frozen h i
end

theorem waits_c (w : World) (g : Nat) (r : ByteArray) (e : Int) (h : Fd w g r e) : Calls Try.prog 25 #[.pointer (some ⟨g, 0, none⟩)] w fun x w' => x = .returned (.int .i64 r.size) ∧ w = w' := by
  have c0 := h.c0
  clear h
  go_enter Try.func25, Try.ntmps25
  go_wp2
  go_ret
  exact ⟨rfl, rfl⟩
theorem broken_c (w : World) (g : Nat) (r : ByteArray) (e : Int) (h : Fd w g r e) : Calls Try.prog 26 #[.pointer (some ⟨g, 0, none⟩)] w fun x w' => x = .returned (.int .i64 e) ∧ w = w' := by
  have c1 := h.c1
  clear h
  go_enter Try.func26, Try.ntmps26
  go_wp2
  go_ret
  exact ⟨rfl, rfl⟩
theorem new_c (w : World) : Calls Try.prog 21 #[] w fun x w' => x = .returned (.pointer (some ⟨w.heap.size, 0, none⟩)) ∧ w.alloc (.cells #[.string ⟨#[]⟩, .int .i64 0] 50) = w' := by
  go_enter Try.func21, Try.ntmps21
  go_wp2
  go_ret
  exact ⟨rfl, rfl⟩

def cellsF (l : List Fr) : List Value := l.flatMap fun x => [.int .i64 x.k, .int .i64 x.f, .string x.b]
theorem cellsF_append (l m : List Fr) : cellsF (l ++ m) = cellsF l ++ cellsF m := by simp [cellsF]
theorem cellsF_one (l : List Fr) : ∀ u ∈ cellsF l, u.oneCell' = true := by
  intro u hu
  simp only [cellsF, List.mem_flatMap, List.mem_cons, List.not_mem_nil, or_false] at hu
  obtain ⟨x, _, rfl | rfl | rfl⟩ := hu <;> rfl

/-- What has been taken of s0 so far: the frames l, told in v; s is left. -/
structure Taken (B g : Nat) (w : World) (s0 : ByteArray) (l : List Fr) (s : ByteArray) (v : Value) (wr : World) : Prop where
  so : parse s0 = (l ++ (parse s).1, (parse s).2)
  fd : Fd wr g s 0
  own : wr.ownsRow B 23 3 v l.length (cellsF l)
  only : w.grownBy wr (some g)
  sz : s.size ≤ 1048576
  len : 4 * l.length + s.size ≤ 1048576

def AtNext (B g : Nat) (b : ByteArray) (w : World) (s0 : ByteArray) (a : Act) (wr : World) : Prop :=
  ∃ (l : List Fr) (s : ByteArray) (u2 u3 u4 u5 u6 u7 u8 u9 u10 u11 u12 u13 u14 u15 u16 u17 u18 u19 u20 u21 u22 u23 u24 u25 u26 u27 u28 u29 u30 u31 u32 u33 u34 u35 u36 u37 u38 u39 u40 u41 u42 u43 u44 u45 u46 u47 u48 u49 u50 u51 u52 u53 u54 u55 u56 u57 u58 u59 u60 u61 : Value), a = ⟨#[.pointer (some ⟨g, 0, none⟩), .string b, u2, u3, u4, u5, u6, u7, u8, u9, u10, u11, u12, u13, u14, u15, u16, u17, u18, u19, u20, u21, u22, u23, u24, u25, u26, u27, u28, u29, u30, u31, u32, u33, u34, u35, u36, u37, u38, u39, u40, u41, u42, u43, u44, u45, u46, u47, u48, u49, u50, u51, u52, u53, u54, u55, u56, u57, u58, u59, u60, u61], []⟩ ∧ Taken B g w s0 l s u5 wr
def restOf (g : Nat) (_ : Act) (w : World) : Nat := match w.cell? ⟨g, 0, none⟩ with | some (.string s) => s.size | _ => 0

theorem wp_scope_back {P : Program} {a : Act} {w : World} {Q : Exit → Act → World → Prop} {c rest : Code} (l : Nat) (J : Act → World → Prop) (μ : Act → World → Nat) (hf : findLabel c l = some (.seq .skip rest))
    (pass : ∀ a w, J a w → rest.wp P (Exit.jump l (fun a' w' => J a' w' ∧ μ a' w' < μ a w) Q) a w)
    (first : (∀ a w, J a w → rest.wp P (Exit.jump l J Q) a w) → c.wp P (Exit.jump l J Q) a w) : (Code.scope c).wp P Q a w := by
  refine wp_scope_jumps l J μ hf (first fun a w h => Code.wp_mono (fun e a' w' q => ?_) (pass a w h)) (fun a w h => ?_)
  · cases e with
    | goto l' => exact ⟨q.1, q.2.1⟩
    | _ => exact q
  · refine wp_seq_k fun K hK => wp_skip ?_
    exact hK _ _ (pass a w h)

theorem info23 : (Try.prog.info? 23).map (fun i => (i.zero, i.size, i.bytes)) = some (some (.agg #[.int .i64 0, .int .i64 0, .string ⟨#[]⟩]), 3, 32) := by kernel_rfl
theorem own_none {w w' : World} {base e size n : Nat} {v : Value} {xs : List Value} (h : w.ownsRow base e size v n xs) (hg : w.grownBy w' none) : w'.ownsRow base e size v n xs :=
  h.kept hg (by
    cases hv : v.ownBlock with
    | none => exact .inl rfl
    | some k => exact .inr (by simp))
theorem own_below {w w' : World} {base e size n : Nat} {v : Value} {xs : List Value} (h : w.ownsRow base e size v n xs) (hb : Below w.heap.size w w') : w'.ownsRow base e size v n xs := own_none h (only_of_below hb none)

theorem own_far {w : World} {base e size n : Nat} {v : Value} {xs : List Value} (h : w.ownsRow base e size v n xs) {g : Nat} (hg : g < base) (i : Nat) (u : Value) : (w.setCell ⟨g, i, none⟩ u).ownsRow base e size v n xs :=
  ownsRow_setCell_below (a := ⟨g, i, none⟩) h hg u
theorem only_new {a b c : World} {row row' : Option Nat} (h : a.grownBy b row) (k : b.grownBy c row') (hr : ∀ j, row' = some j → a.heap.size ≤ j) : a.grownBy c row :=
  ⟨k.os.trans h.os, k.tape.trans h.tape, k.output.trans h.output, Nat.le_trans h.size k.size, fun i hi hne =>
    (k.block i (Nat.lt_of_lt_of_le hi h.size) (fun e => by have := hr i e.symm; omega)).trans (h.block i hi hne)⟩
theorem only_below {a w w' : World} {g : Nat} (h : a.grownBy w (some g)) (hb : Below w.heap.size w w') : a.grownBy w' (some g) := only_trans h (only_of_below hb _)
theorem reads_new (w : World) (t : TypeId) (cs : Array Value) (n : Nat) (hn : n = w.heap.size) (h3 : cs.size = 3) : Reads (w.alloc (.cells cs t)) (n + 1) 3 (some ⟨n, 0, none⟩) 1 cs.toList := by
  subst hn
  refine ⟨by simpa using h3, fun _ => ⟨_, rfl, by simp, fun j u hu => ?_⟩⟩
  have e : (⟨w.heap.size, 0, none⟩ : Addr).add j = ⟨w.heap.size, j, none⟩ := by unfold Addr.add; split <;> simp_all
  rw [e, (Blk.new w t cs).cell j, ← hu]
  simp

/-- What Push hands back: the frames in a row of its own; the feed has what is left. -/
def PushRet (w : World) (g : Nat) (l : List Fr) (r : ByteArray) (e : Int) (x : Ending) (w' : World) : Prop :=
  ∃ v, x = .returned v ∧ w'.ownsRow w.heap.size 23 3 v l.length (cellsF l) ∧ Fd w' g r e ∧ w.grownBy w' (some g)

set_option maxHeartbeats 2000000 in
set_option maxRecDepth 100000 in
theorem push_c (w : World) (g : Nat) (r b : ByteArray) (h : Fd w g r 0) (hz : r.size + b.size ≤ 1048576) :
    Calls Try.prog 22 #[.pointer (some ⟨g, 0, none⟩), .string b] w (PushRet w g (parse (r ++ b)).1 (parse (r ++ b)).2.1 (parse (r ++ b)).2.2) := by
  have c0 := h.c0
  have c1 := h.c1
  have f0 := h.fz 0
  have Hh := Lib.hid h
  clear h
  go_enter Try.func22, Try.ntmps22
  go_wp2_with fail
  refine wp_scope_back 0 (AtNext w.heap.size g b w (r ++ b)) (restOf g) rfl ?_ ?_
  · rintro a wr ⟨l, s, u2, u3, u4, u5, u6, u7, u8, u9, u10, u11, u12, u13, u14, u15, u16, u17, u18, u19, u20, u21, u22, u23, u24, u25, u26, u27, u28, u29, u30, u31, u32, u33, u34, u35, u36, u37, u38, u39, u40, u41, u42, u43, u44, u45, u46, u47, u48, u49, u50, u51, u52, u53, u54, u55, u56, u57, u58, u59, u60, u61, rfl, hT⟩
    have d0 := hT.fd.c0
    have d1 := hT.fd.c1
    have e0 := hT.fd.fz 0
    have e1 := hT.fd.fz 1
    have hsz := hT.sz
    have hcase := take_E s
    have C := take_c s wr (by unfold maxLen; omega)
    unfold TakeRet at C
    have HT := Lib.hid hT
    have hown := hT.own
    clear hT c0 c1 f0 d1 e1
    obtain ⟨i0, hi0, hz0, hz1, hz2⟩ := info_parts info23
    rcases hcase with h0 | h2 | h34
    · have hN : takeN s = (flen s : Int) := if_pos h0
      obtain ⟨hf4, hfs⟩ := flen_le h0
      rw [h0, hN] at C
      have hnext := parse_ok h0
      have Hn := Lib.hid hnext
      generalize hF : takeF s = F at *
      have HF := Lib.hid hF
      generalize hfl : flen s = N at *
      have D := Lib.hid C
      clear C hN h0 hF hnext hfl
      go_wp2_with fail
      refine D.out.mono ?_
      rintro e w1 ⟨rfl, hb1⟩
      have hfd1 := Blk.below HT.out.fd hb1 (Blk.lt HT.out.fd)
      have hown1 := own_below hown hb1
      have e1 := Fd.c0 hfd1
      have e2 := Fd.fz hfd1 0
      have Hown := Lib.hid hown1
      have Hfd := Lib.hid hfd1
      have hgl : g < w1.heap.size := Blk.lt hfd1
      clear d0 e0 hown hown1 hfd1
      go_wp2_with (at_builtin; refine wpList_append_any _ rfl (.tmp 46) (.tmp 48) _ rfl w.heap.size 23 i0 _ 3 32 Try.underlying42 hi0 hz0 hz1 hz2 rfl (by omega) u5 l.length (cellsF l) rfl ?_ (w1.heap.size + 2) (some ⟨w1.heap.size + 1, 0, none⟩) 1 1 [.int .i64 F.k, .int .i64 F.f, .string F.b] rfl ?_ ?_ ?_ ?_ ?_ ?_)
      · exact (Hown.out.alloc _).alloc _
      · exact reads_new (w1.alloc (.cells #[.int .i64 F.k, .int .i64 F.f, .string F.b] 23)) 23 #[.int .i64 F.k, .int .i64 F.f, .string F.b] (w1.heap.size + 1) (by simp) rfl
      · simp [Value.oneCell']
      · have := HT.out.len; unfold maxLen; omega
      · have := HT.out.len; omega
      · have := HT.out.only.size; have := hb1.size; simp; omega
      intro v1 w2 hown2 hg2 _
      have hgw : g < w.heap.size := Blk.lt Hh.out
      have hne : u5.ownBlock ≠ some g := fun h => by have := (HT.out.own.lt g h).1; omega
      have hfd2 : Fd w2 g s 0 := Blk.grown ((Blk.alloc Hfd.out _).alloc _) hg2 (fun h => hne h.symm)
      have e3 := hfd2.c0
      have e4 := hfd2.fz 0
      have Hfd2 := Lib.hid hfd2
      have Hne := Lib.hid hne
      clear hfd2 e1 e2 hne
      go_wp2_with fail
      go_step3
      simp only [Exit.inBlock, Exit.then]
      have hT' : Taken w.heap.size g w (r ++ b) (l ++ [F]) (s.extract N s.size) v1 (w2.setCell ⟨g, 0, none⟩ (.string (s.extract N s.size))) := by
        have hlen := HT.out.len
        refine ⟨?_, Blk.set_ Hfd2.out 0 _, ?_, ?_, ?_, ?_⟩
        · rw [HT.out.so, Hn.out]
          simp
        · rw [cellsF_append, List.length_append]
          exact own_far hown2 (Nat.lt_of_lt_of_le hgw (Nat.le_refl _)) _ _
        · exact only_setg (only_new (only_alloc (only_alloc (only_below HT.out.only hb1) _) _) hg2 (fun k hk => (HT.out.own.lt k hk).1)) 0 _
        · rw [ByteArray.size_extract]; omega
        · rw [ByteArray.size_extract, List.length_append]; simp; omega
      refine ⟨rfl, ⟨l ++ [F], s.extract N s.size, _, _, _, _, _, _, _, _, _, _, _, _, _, _, _, _, _, _, _, _, _, _, _, _, _, _, _, _, _, _, _, _, _, _, _, _, _, _, _, _, _, _, _, _, _, _, _, _, _, _, _, _, _, _, _, _, _, _, _, _, rfl, hT'⟩, ?_⟩
      rw [restOf, restOf, hT'.fd.c0, HT.out.fd.c0]
      show (s.extract N s.size).size < s.size
      rw [ByteArray.size_extract]; omega
    · have hN : takeN s = 0 := if_neg (by rw [h2]; decide)
      rw [h2, hN] at C
      have hnext := parse_short h2
      have Hn := Lib.hid hnext
      generalize takeF s = F at *
      have D := Lib.hid C
      clear C hN h2 hnext
      go_wp2_with fail
      refine D.out.mono ?_
      rintro e w1 ⟨rfl, hb1⟩
      go_wp2_with fail
      simp only [Exit.jump]
      go_ret
      rw [HT.out.so, Hn.out]
      rw [List.append_nil]
      exact ⟨u5, rfl, (own_below HT.out.own hb1).alloc _, Blk.alloc (Blk.below HT.out.fd hb1 (Blk.lt HT.out.fd)) _, only_alloc (only_below HT.out.only hb1) _⟩
    · have hN : takeN s = 0 := if_neg (by omega)
      have hnext := parse_bad (s := s) (by omega) (by omega)
      rw [hN] at C
      have Hn := Lib.hid hnext
      generalize takeF s = F at *
      have q0 : (takeE s == 0) = false := by rw [beq_eq_false_iff_ne]; omega
      have q2 : (takeE s == 2) = false := by rw [beq_eq_false_iff_ne]; omega
      clear hnext h34
      generalize takeE s = E at *
      have D := Lib.hid C
      clear C hN
      go_wp2_with fail
      refine D.out.mono ?_
      rintro e w1 ⟨rfl, hb1⟩
      have hfd1 := Blk.below HT.out.fd hb1 (Blk.lt HT.out.fd)
      have e1 := Fd.c0 hfd1
      have e2 := Fd.fz hfd1 0
      have e3 := Fd.c1 hfd1
      have e4 := Fd.fz hfd1 1
      have hgl : g < w1.heap.size := Blk.lt hfd1
      go_wp2_with fail
      simp only [Exit.jump]
      go_ret
      rw [HT.out.so, Hn.out]
      rw [List.append_nil]
      refine ⟨u5, rfl, ?_, ((Blk.set_ hfd1 0 _).set_ 1 _).alloc _, only_alloc (only_setg (only_setg (only_below HT.out.only hb1) 0 _) 1 _) _⟩
      have hgw : g < w.heap.size := Blk.lt Hh.out
      exact (own_far (own_far (own_below HT.out.own hb1) hgw _ _) hgw _ _).alloc _
  · intro hp
    go_wp2_with fail
    go_step3
    go_step
    go_step
    refine hp _ _ ?_
    refine ⟨[], r ++ b, _, _, _, _, _, _, _, _, _, _, _, _, _, _, _, _, _, _, _, _, _, _, _, _, _, _, _, _, _, _, _, _, _, _, _, _, _, _, _, _, _, _, _, _, _, _, _, _, _, _, _, _, _, _, _, _, _, _, _, _, rfl, ?_⟩
    exact ⟨by simp, Hh.out.set_ 0 _, World.ownsRow_nil _ _ _ _, only_setg (only_refl _ _) 0 _, by rw [ByteArray.size_append]; exact hz, by rw [ByteArray.size_append]; simpa using hz⟩
theorem push_broken (w : World) (g : Nat) (r b : ByteArray) (e : Int) (h : Fd w g r e) (he : e ≠ 0) :
    Calls Try.prog 22 #[.pointer (some ⟨g, 0, none⟩), .string b] w fun x w' => x = .returned (.slice none 0 0) ∧ w = w' := by
  have c1 := h.c1
  have hx : (e != 0) = true := by rw [bne_iff_ne]; exact he
  clear h he
  go_enter Try.func22, Try.ntmps22
  go_wp2_with fail
  go_step3
  go_wp2_with fail
  rw [Exit.noGoto_ret]
  go_ret
  exact ⟨rfl, rfl⟩
theorem push_nil (w : World) (b : ByteArray) : Calls Try.prog 22 #[.pointer none, .string b] w fun x w' => x = .returned (.slice none 0 0) ∧ w = w' := by
  go_enter Try.func22, Try.ntmps22
  go_wp2_with fail
  go_step3
  go_wp2_with fail
  rw [Exit.noGoto_ret]
  go_ret
  exact ⟨rfl, rfl⟩
theorem waits_nil (w : World) : Calls Try.prog 25 #[.pointer none] w fun x w' => x = .returned (.int .i64 0) ∧ w = w' := by
  go_enter Try.func25, Try.ntmps25
  go_wp2
  go_ret
  exact ⟨rfl, rfl⟩
theorem broken_nil (w : World) : Calls Try.prog 26 #[.pointer none] w fun x w' => x = .returned (.int .i64 0) ∧ w = w' := by
  go_enter Try.func26, Try.ntmps26
  go_wp2
  go_ret
  exact ⟨rfl, rfl⟩

theorem own_form {w : World} {base e size n : Nat} {v : Value} {xs : List Value} (h : w.ownsRow base e size v n xs) : ∃ A c, v = .slice A n c ∧ n ≤ c := by
  rcases h.2 with ⟨rfl, rfl⟩ | ⟨g, cap, cur, rfl, _, _, hc, _⟩
  · exact ⟨none, 0, rfl, Nat.le_refl _⟩
  · exact ⟨_, cap, rfl, hc⟩

theorem parse_a : parse ⟨#[5, 0]⟩ = ([], ⟨#[5, 0]⟩, 0) := parse_short (by kernel_rfl)
theorem parse_b : parse ⟨#[5, 0, 0, 0, 5]⟩ = ([⟨5, 0, ⟨#[]⟩⟩], ⟨#[5]⟩, 0) := by
  have h0 : takeE ⟨#[5, 0, 0, 0, 5]⟩ = 0 := by kernel_rfl
  have h1 : takeF ⟨#[5, 0, 0, 0, 5]⟩ = ⟨5, 0, ⟨#[]⟩⟩ := by kernel_rfl
  have h2 : (⟨#[5, 0, 0, 0, 5]⟩ : ByteArray).extract (flen ⟨#[5, 0, 0, 0, 5]⟩) (⟨#[5, 0, 0, 0, 5]⟩ : ByteArray).size = ⟨#[5]⟩ := by kernel_rfl
  rw [parse_ok h0, h1, h2, parse_short (s := ⟨#[5]⟩) (by kernel_rfl)]
theorem parse_c : parse ⟨#[0, 0, 0, 0]⟩ = ([], ⟨#[]⟩, 4) := by
  have h0 : takeE ⟨#[0, 0, 0, 0]⟩ = 4 := by kernel_rfl
  rw [parse_bad (by rw [h0]; decide) (by rw [h0]; decide), h0]

set_option maxHeartbeats 1000000 in
theorem awake6_c (w : World) : Calls Try.prog 20 #[] w (Tells w true) := by
  go_enter Try.func20, Try.ntmps20
  go_wp2_with fail
  refine (new_c _).mono ?_
  rintro e w1 ⟨rfl, hw1⟩
  have hf : Fd w1 w.heap.size ⟨#[]⟩ 0 := by rw [← hw1]; exact Blk.new _ _ _
  have hbel : Below w.heap.size w w1 := by rw [← hw1]; exact (Below.refl _ _).alloc (Nat.le_refl _) _
  have hs1 : w.heap.size < w1.heap.size := by rw [← hw1]; simp
  clear hw1
  have C := push_c w1 w.heap.size ⟨#[]⟩ ⟨#[5, 0]⟩ hf (by decide)
  have e1 : (⟨#[]⟩ : ByteArray) ++ ⟨#[5, 0]⟩ = ⟨#[5, 0]⟩ := by kernel_rfl
  rw [e1, parse_a] at C
  have D := Lib.hid C
  clear C e1 hf
  go_wp2_with fail
  refine D.out.mono ?_
  rintro e w2 ⟨v, rfl, hown, hf2, hg2⟩
  obtain ⟨A, c, rfl, _⟩ := own_form hown
  have C := push_c w2 w.heap.size ⟨#[5, 0]⟩ ⟨#[0, 0, 5]⟩ hf2 (by decide)
  have e1 : (⟨#[5, 0]⟩ : ByteArray) ++ ⟨#[0, 0, 5]⟩ = ⟨#[5, 0, 0, 0, 5]⟩ := by kernel_rfl
  rw [e1, parse_b] at C
  have D2 := Lib.hid C
  clear C e1 D hown hf2
  go_wp2_with fail
  refine D2.out.mono ?_
  rintro e w3 ⟨v, rfl, hown, hf3, hg3⟩
  obtain ⟨b, cap, rfl, hb0, hb1⟩ := hown.form (by simp)
  have hk : w3.cell? ⟨b, 0, none⟩ = some (.int .i64 5) := by
    have := hown.cells (g := b) rfl 0 (.int .i64 5) rfl
    simpa [Addr.add] using this
  have Hf3 := Lib.hid hf3
  have hs2 := hg2.size
  clear hown hf3 D2
  go_wp2_with (go_at_call 25; refine (waits_c _ _ _ _ Hf3.out).mono ?_; rintro e w' ⟨rfl, rfl⟩)
  go_ret
  exact ⟨rfl, below_only (below_only hbel hg2 (by omega) (Nat.le_refl _)) hg3 (by omega) (Nat.le_refl _)⟩

end Go.Proofs.Ythifnnogpcgjpaa
