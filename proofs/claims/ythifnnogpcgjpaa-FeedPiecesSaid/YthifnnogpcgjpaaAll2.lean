/- What the document's All and Same do. -/
import Derived.Test.YthifnnogpcgjpaaFeed
import Derived.Test.YthifnnogpcgjpaaAll
namespace Go.Proofs.Ythifnnogpcgjpaa
open Go.RowKit
set_option linter.unusedSimpArgs false

structure TakenR (B : Nat) (w : World) (s0 : ByteArray) (l : List Fr) (s : ByteArray) (v : Value) (wr : World) : Prop where
  so : parse s0 = (l ++ (parse s).1, (parse s).2)
  own : wr.ownsRow B 23 3 v l.length (cellsF l)
  bel : Below B w wr
  len : 4 * l.length + s.size ≤ 1048576

def AllRet (w : World) (l : List Fr) (r : ByteArray) (e : Int) (x : Ending) (w' : World) : Prop :=
  ∃ v, x = .returned (.tuple #[v, .string r, .int .i64 e]) ∧ w'.ownsRow w.heap.size 23 3 v l.length (cellsF l) ∧ Below w.heap.size w w'

def strLen : Value → Nat | .string s => s.size | _ => 0
theorem ref_ok {s : ByteArray} (h : takeE s = 0) : refN s = hlen s ∧ 0 ≤ hlen s ∧ hlen s ≤ 1024 ∧ flen s = 4 + (hlen s).toNat := by
  have hb := hlen_bd s
  have hE : headE s = 0 := by
    unfold takeE at h
    split at h
    · exact h
    · rename_i h1
      exact Classical.byContradiction fun h2 => h1 h2
  unfold takeE at h
  rw [if_neg (by simp [hE])] at h
  refine ⟨if_pos hE, hb.1, ?_, rfl⟩
  unfold headE at hE
  split at hE
  · cases hE
  · split at hE
    · cases hE
    · split at hE
      · cases hE
      · omega

set_option maxHeartbeats 2000000 in
set_option maxRecDepth 100000 in
theorem refall_c (w : World) (b : ByteArray) (hz : b.size ≤ 1048576) :
    Calls Try.prog 23 #[.string b] w (AllRet w (parse b).1 (parse b).2.1 (parse b).2.2) := by
  go_enter Try.func23, Try.ntmps23
  go_wp2_with fail
  generalize hB : w.heap.size = B
  go_loopw [0, 5] (fun s v wr => ∃ (l : List Fr) (s' : ByteArray), s = .string s' ∧ TakenR B w b l s' v wr) (fun s _ _ => strLen s)
  case atStart => exact ⟨[], b, rfl, by simp, World.ownsRow_nil _ _ _ _, hB ▸ Below.refl _ _, by simpa using hz⟩
  case round =>
    obtain ⟨l, s', rfl, hT⟩ := hrel
    have hcase := take_E s'
    have C := reftake_c s' wr (by have := hT.len; unfold maxLen; omega)
    unfold RefRet at C
    have HT := Lib.hid hT
    clear hT
    obtain ⟨i0, hi0, hz0, hz1, hz2⟩ := info_parts info23
    rcases hcase with h0 | h2 | h34
    · obtain ⟨hN, hN0, hN1, hfl⟩ := ref_ok h0
      obtain ⟨hf4, hfs⟩ := flen_le h0
      rw [h0, hN] at C
      have hnext := parse_ok h0
      rw [hfl] at hnext hfs
      clear hN hfl hf4
      have Hn := Lib.hid hnext
      generalize hF : takeF s' = F at *
      generalize hlen s' = N at *
      obtain ⟨N, rfl⟩ := Int.eq_ofNat_of_zero_le hN0
      have D := Lib.hid C
      clear C h0 hnext hF
      simp only [Int.toNat_natCast] at hfs
      go_wp2_with fail
      refine D.out.mono ?_
      rintro e w1 ⟨rfl, hb1⟩
      have hown1 := own_below HT.out.own hb1
      have Hown := Lib.hid hown1
      have hbel1 := below_step HT.out.bel (by rw [← hB]; exact Nat.le_refl _) hb1
      have hs1 : B ≤ w1.heap.size := by have := hbel1.size; omega
      clear hown1 D
      have wN : IntKind.i64.wrap (4 + (N : Int)) = 4 + (N : Int) := by rw [IntKind.wrap_i64]; omega
      have zN : (4 + (N : Int)).toNat = 4 + N := by omega
      go_wp2_with (at_builtin; refine wpList_append_any _ rfl (.tmp 23) (.tmp 25) _ rfl B 23 i0 _ 3 32 Try.underlying42 hi0 hz0 hz1 hz2 rfl (by omega) u5 l.length (cellsF l) rfl ?_ (w1.heap.size + 2) (some ⟨w1.heap.size + 1, 0, none⟩) 1 1 [.int .i64 F.k, .int .i64 F.f, .string F.b] rfl ?_ ?_ ?_ ?_ ?_ ?_)
      · exact (Hown.out.alloc _).alloc _
      · exact reads_new (w1.alloc (.cells #[.int .i64 F.k, .int .i64 F.f, .string F.b] 23)) 23 #[.int .i64 F.k, .int .i64 F.f, .string F.b] (w1.heap.size + 1) (by simp) rfl
      · simp [Value.oneCell']
      · have := HT.out.len; unfold maxLen; omega
      · have := HT.out.len; omega
      · simp; omega
      intro v1 w2 hown2 hg2 _
      have hT' : TakenR B w b (l ++ [F]) (s'.extract (4 + N) s'.size) v1 w2 := by
        have hlen := HT.out.len
        refine ⟨?_, ?_, ?_, ?_⟩
        · rw [HT.out.so, Hn.out]
          simp
        · rw [cellsF_append, List.length_append]
          exact hown2
        · refine ((hbel1.alloc hs1 _).alloc (by simp; omega) _).grown hg2 (by simp; omega) ?_
          intro k hk
          exact (HT.out.own.lt k hk).1
        · rw [ByteArray.size_extract, List.length_append]; simp; omega
      have HT' := Lib.hid hT'
      clear hT' hown2 hg2
      go_wp2_with fail
      go_roundw
      case rel => exact ⟨l ++ [F], _, rfl, HT'.out⟩
      case measure =>
        show (s'.extract (4 + N) s'.size).size < s'.size
        rw [ByteArray.size_extract]; omega
    · have hN : True := trivial
      rw [h2] at C
      have hnext := parse_short h2
      have Hn := Lib.hid hnext
      generalize takeF s' = F at *
      generalize refN s' = N at *
      have D := Lib.hid C
      clear C hN h2 hnext
      go_wp2_with fail
      refine D.out.mono ?_
      rintro e w1 ⟨rfl, hb1⟩
      go_wp2_with fail
      refine bodyPost_ret (v := .tuple #[u5, .string s', .int .i64 0]) (by simp [results, Try.results23, go_sem]) rfl ?_
      rw [HT.out.so, Hn.out, List.append_nil]
      subst hB
      exact ⟨u5, rfl, (own_below HT.out.own hb1).alloc _, (below_step HT.out.bel (Nat.le_refl _) hb1).alloc (by have := HT.out.bel.size; have := hb1.size; omega) _⟩
    · have hnext := parse_bad (s := s') (by omega) (by omega)
      have Hn := Lib.hid hnext
      generalize takeF s' = F at *
      generalize refN s' = N at *
      have q0 : (takeE s' == 0) = false := by rw [beq_eq_false_iff_ne]; omega
      have q2 : (takeE s' == 2) = false := by rw [beq_eq_false_iff_ne]; omega
      have q1 : (takeE s' != 0) = true := by rw [bne_iff_ne]; omega
      clear hnext h34
      generalize takeE s' = E at *
      have D := Lib.hid C
      clear C
      go_wp2_with fail
      refine D.out.mono ?_
      rintro e w1 ⟨rfl, hb1⟩
      go_wp2_with fail
      refine bodyPost_ret (v := .tuple #[u5, .string ⟨#[]⟩, .int .i64 E]) (by simp [results, Try.results23, go_sem]) rfl ?_
      rw [HT.out.so, Hn.out, List.append_nil]
      subst hB
      exact ⟨u5, rfl, (own_below HT.out.own hb1).alloc _, (below_step HT.out.bel (Nat.le_refl _) hb1).alloc (by have := HT.out.bel.size; have := hb1.size; omega) _⟩
end Go.Proofs.Ythifnnogpcgjpaa
