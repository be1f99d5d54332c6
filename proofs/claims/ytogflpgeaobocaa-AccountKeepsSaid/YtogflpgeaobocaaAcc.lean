/- What each function of package account does, and of its reference: contracts for the walks of AccountSteps, AccountKeeps, AccountNone. -/
import Derived.Test.YtogflpgeaobocaaMem
namespace Go.Proofs.Ytogflpgeaobocaa
open Go.RowKit
set_option linter.unusedSimpArgs false

def Acc (w : World) (g : Nat) (L T : Int) : Prop := Blk w g 40 #[.int .i64 L, .int .i64 T]

theorem Acc.c0 {w g L T} (h : Acc w g L T) : w.cell? ⟨g, 0, none⟩ = some (.int .i64 L) := by have := Blk.cell h 0; simpa using this
theorem Acc.c1 {w g L T} (h : Acc w g L T) : w.cell? ⟨g, 1, none⟩ = some (.int .i64 T) := by have := Blk.cell h 1; simpa using this
theorem Acc.f0 {w g L T} (h : Acc w g L T) : w.frozen? ⟨g, 0, none⟩ = false := Blk.frozen h 0
theorem Acc.f1 {w g L T} (h : Acc w g L T) : w.frozen? ⟨g, 1, none⟩ = false := Blk.frozen h 1

def roomF (L T : Int) : Int := if L - T < 0 then 0 else L - T

theorem taken_cell (w : World) (g : Nat) (T : Int) (h1 : w.cell? ⟨g, 1, none⟩ = some (.int .i64 T)) :
    Calls Try.prog 18 #[.pointer (some ⟨g, 0, none⟩)] w fun e w' => e = .returned (.int .i64 T) ∧ w = w' := by
  go_enter Try.func18, Try.ntmps18
  go_wp2
  go_ret
  exact ⟨rfl, rfl⟩
theorem taken_c (w : World) (g : Nat) (L T : Int) (h : Acc w g L T) :
    Calls Try.prog 18 #[.pointer (some ⟨g, 0, none⟩)] w fun e w' => e = .returned (.int .i64 T) ∧ w = w' := by
  have h1 := h.c1
  clear h
  go_enter Try.func18, Try.ntmps18
  go_wp2
  go_ret
  exact ⟨rfl, rfl⟩


theorem room_cell (w : World) (g : Nat) (L T : Int) (h0 : w.cell? ⟨g, 0, none⟩ = some (.int .i64 L)) (h1 : w.cell? ⟨g, 1, none⟩ = some (.int .i64 T)) (hL0 : 0 ≤ L) (hL : L ≤ 1048576) (hT0 : 0 ≤ T) (hT : T ≤ 1048576) :
    Calls Try.prog 19 #[.pointer (some ⟨g, 0, none⟩)] w fun e w' => e = .returned (.int .i64 (roomF L T)) ∧ ∃ n, w.drewN n = w' := by
  unfold roomF
  by_cases hr : L - T < 0
  all_goals
    go_enter Try.func19, Try.ntmps19
    go_wp2
    go_quiet (fail)
    go_wp2
    go_ret
    exact ⟨rfl, _, rfl⟩
theorem room_c (w : World) (g : Nat) (L T : Int) (h : Acc w g L T) (hL0 : 0 ≤ L) (hL : L ≤ 1048576) (hT0 : 0 ≤ T) (hT : T ≤ 1048576) :
    Calls Try.prog 19 #[.pointer (some ⟨g, 0, none⟩)] w fun e w' => e = .returned (.int .i64 (roomF L T)) ∧ ∃ n, w.drewN n = w' := room_cell w g L T h.c0 h.c1 hL0 hL hT0 hT

def takeE (L T n : Int) : Int := if n < 0 then 1 else if n > roomF L T then 13 else 0
def takeT (L T n : Int) : Int := if n < 0 then T else if n > roomF L T then T else T + n
def giveE (T n : Int) : Int := if n < 0 then 1 else if n > T then 1 else 0
def giveT (T n : Int) : Int := if n < 0 then T else if n > T then T else T - n

def RetAcc (w : World) (g : Nat) (E : Int) (L T : Int) (e : Ending) (w' : World) : Prop := e = .returned (.int .i64 E) ∧ Acc w' g L T ∧ w.grownBy w' (some g)

theorem RetAcc.mk0 {w w' g E E' L T T' v} (hv : v = .int .i64 E) (hE : E = E') (hT : T = T') (h : Acc w' g L T) (hg : w.grownBy w' (some g)) : RetAcc w g E' L T' (.returned v) w' := by
  subst hv hE hT; exact ⟨rfl, h, hg⟩

theorem take_c (w : World) (g : Nat) (L T n : Int) (h : Acc w g L T) (hL0 : 0 ≤ L) (hL : L ≤ 1048576) (hT0 : 0 ≤ T) (hT : T ≤ 1048576) :
    Calls Try.prog 13 #[.pointer (some ⟨g, 0, none⟩), .int .i64 n] w (RetAcc w g (takeE L T n) L (takeT L T n)) := by
  by_cases h1 : n < 0
  · go_enter Try.func13, Try.ntmps13
    go_wp2_with fail
    go_in
    go_wp2_with fail
    go_ret
    exact .mk0 rfl (by simp [takeE, h1]) (by simp [takeT, h1]) h (only_refl _ _)
  · by_cases h2 : n > roomF L T
    · go_enter Try.func13, Try.ntmps13
      go_wp2_with fail
      go_in
      go_wp2_with fail
      refine (room_c w g L T h hL0 hL hT0 hT).mono ?_
      rintro e w' ⟨rfl, k, rfl⟩
      go_wp2_with fail
      go_ret
      exact .mk0 rfl (by simp [takeE, h2]; omega) (by simp [takeT, h2]) (h.drewN _) (only_drewN (only_refl _ _) _)
    · have hr : roomF L T ≤ 1048576 := by unfold roomF; split <;> omega
      have hr2 : n ≤ roomF L T := by omega
      go_enter Try.func13, Try.ntmps13
      go_wp2_with fail
      go_in
      go_wp2_with fail
      refine (room_c w g L T h hL0 hL hT0 hT).mono ?_
      rintro e w' ⟨rfl, k, rfl⟩
      have hc1 := h.c1
      have hf1 := h.f1
      go_wp2_with fail
      go_ret
      exact .mk0 rfl (by simp [takeE]; omega) (by simp [takeT]; omega) ((h.drewN _).set_ 1 _) (only_setCell (only_drewN (only_refl _ _) _) (.inl rfl) _)

theorem give_c (w : World) (g : Nat) (L T n : Int) (h : Acc w g L T) (hT0 : 0 ≤ T) (hT : T ≤ 1048576) :
    Calls Try.prog 15 #[.pointer (some ⟨g, 0, none⟩), .int .i64 n] w (RetAcc w g (giveE T n) L (giveT T n)) := by
  by_cases h1 : n < 0
  · go_enter Try.func15, Try.ntmps15
    go_wp2_with fail
    go_in
    go_wp2_with fail
    go_ret
    exact .mk0 rfl (by simp [giveE, h1]) (by simp [giveT, h1]) h (only_refl _ _)
  · by_cases h2 : n > T
    · go_enter Try.func15, Try.ntmps15
      go_wp2_with fail
      go_in
      go_wp2_with fail
      refine (taken_c w g L T h).mono ?_
      rintro e w' ⟨rfl, rfl⟩
      go_wp2_with fail
      go_ret
      exact .mk0 rfl (by simp [giveE, h2]) (by simp [giveT, h2]) h (only_refl _ _)
    · have hr2 : n ≤ T := by omega
      go_enter Try.func15, Try.ntmps15
      go_wp2_with fail
      go_in
      go_wp2_with fail
      refine (taken_c w g L T h).mono ?_
      rintro e w' ⟨rfl, rfl⟩
      have hc1 := h.c1
      have hf1 := h.f1
      go_wp2_with fail
      go_ret
      refine .mk0 rfl (by simp [giveE]; omega) ?_ (h.set_ 1 _) (only_setCell (only_refl _ _) (.inl rfl) _)
      simp [giveT]; omega

def limF (n : Int) : Int := if n < 0 then 0 else if n > 1048576 then 1048576 else n

def SetAcc (w : World) (g : Nat) (L T : Int) (e : Ending) (w' : World) : Prop := e = .returned (.tuple #[]) ∧ Acc w' g L T ∧ w.grownBy w' (some g)
theorem SetAcc.mk0 {w w' g L L' T} (hT : L = L') (h : Acc w' g L T) (hg : w.grownBy w' (some g)) : SetAcc w g L' T (.returned (.tuple #[])) w' := by
  subst hT; exact ⟨rfl, h, hg⟩

theorem set_c (w : World) (g : Nat) (L T n : Int) (ha : Acc w g L T) :
    Calls Try.prog 17 #[.pointer (some ⟨g, 0, none⟩), .int .i64 n] w (SetAcc w g (limF n) T) := by
  have hc0 := ha.c0
  have hf0 := ha.f0
  by_cases h1 : n < 0
  · go_enter Try.func17, Try.ntmps17
    go_wp2
    go_end0
    exact .mk0 (by simp [limF, h1]) (Blk.set_ ha 0 _) (only_setCell (only_refl _ _) (.inl rfl) _)
  · by_cases h2 : n > 1048576
    · go_enter Try.func17, Try.ntmps17
      go_wp2
      go_end0
      exact .mk0 (by simp [limF, h2]; omega) (Blk.set_ ha 0 _) (only_setCell (only_refl _ _) (.inl rfl) _)
    · go_enter Try.func17, Try.ntmps17
      go_wp2
      all_goals
        go_end0
        exact .mk0 (by simp only [limF]; rw [if_neg (by omega), if_neg (by omega)]; try omega) (Blk.set_ ha 0 _) (only_setCell (only_refl _ _) (.inl rfl) _)

def NewAcc (w : World) (L : Int) (e : Ending) (w' : World) : Prop := e = .returned (.pointer (some ⟨w.heap.size, 0, none⟩)) ∧ Acc w' w.heap.size L 0 ∧ Below w.heap.size w w' ∧ w.heap.size < w'.heap.size

theorem new_c (w : World) (n : Int) : Calls Try.prog 11 #[.int .i64 n] w (NewAcc w (limF n)) := by
  go_enter Try.func11, Try.ntmps11
  go_wp2_with fail
  refine (set_c _ w.heap.size 0 0 n (Blk.new _ _ _)).mono ?_
  rintro e w1 ⟨rfl, ha, hg⟩
  go_wp2_with fail
  go_ret
  exact ⟨rfl, ha, below_of_only _ hg (Nat.le_refl _), by have := hg.size; simp at this; omega⟩


theorem awake_c (w : World) : Calls Try.prog 10 #[] w (Tells w true) := by
  go_enter Try.func10, Try.ntmps10
  go_wp2_with fail
  refine (new_c w 5).mono ?_
  rintro e w1 ⟨rfl, ha, hb, hs⟩
  go_wp2_with fail
  refine (take_c w1 _ (limF 5) 0 3 ha (by decide) (by decide) (by decide) (by decide)).mono ?_
  rintro e w2 ⟨rfl, ha2, hg2⟩
  have e1 : takeE (limF 5) 0 3 = 0 := by decide
  have e2 : takeT (limF 5) 0 3 = 3 := by decide
  rw [e1]
  rw [e2] at ha2
  clear e1 e2
  go_wp2_with fail
  refine (take_c w2 _ (limF 5) 3 3 ha2 (by decide) (by decide) (by decide) (by decide)).mono ?_
  rintro e w3 ⟨rfl, ha3, hg3⟩
  have e3 : takeE (limF 5) 3 3 = 13 := by decide
  have e4 : takeT (limF 5) 3 3 = 3 := by decide
  rw [e3]
  rw [e4] at ha3
  clear e3 e4
  go_wp2_with fail
  refine (taken_c w3 _ _ _ ha3).mono ?_
  rintro e w4 ⟨rfl, rfl⟩
  go_wp2_with fail
  go_ret
  refine ⟨rfl, ?_⟩
  exact below_only (below_only hb hg2 (by omega) (Nat.le_refl _)) hg3 (by have := hg2.size; omega) (Nat.le_refl _)

theorem reflimit_c (w : World) (n : Int) : Calls Try.prog 12 #[.int .i64 n] w fun e w' => e = .returned (.int .i64 (limF n)) ∧ w = w' := by
  by_cases h1 : n < 0
  · go_enter Try.func12, Try.ntmps12
    go_wp2
    go_ret
    exact ⟨ret_int (by unfold limF; rw [if_pos (by omega)]), rfl⟩
  · by_cases h2 : n > 1048576
    · go_enter Try.func12, Try.ntmps12
      go_wp2
      go_ret
      exact ⟨ret_int (by unfold limF; rw [if_neg (by omega), if_pos (by omega)]), rfl⟩
    · go_enter Try.func12, Try.ntmps12
      go_wp2
      go_ret
      exact ⟨ret_int (by unfold limF; rw [if_neg (by omega), if_neg (by omega)]), rfl⟩

theorem refroom_c (w : World) (L T : Int) (hL0 : 0 ≤ L) (hL : L ≤ 1048576) (hT0 : 0 ≤ T) (hT : T ≤ 1048576) :
    Calls Try.prog 20 #[.agg #[.int .i64 L, .int .i64 T]] w fun e w' => e = .returned (.int .i64 (roomF L T)) ∧ ∃ o, w.alloc o = w' := by
  by_cases h1 : T > L
  · go_enter Try.func20, Try.ntmps20
    go_wp2
    go_ret
    exact ⟨ret_int (by unfold roomF; rw [if_pos (by omega)]), _, rfl⟩
  · go_enter Try.func20, Try.ntmps20
    go_wp2
    go_ret
    exact ⟨ret_int (by unfold roomF; rw [if_neg (by omega)]), _, rfl⟩

def RefRet (w : World) (L T E : Int) (e : Ending) (w' : World) : Prop := e = .returned (.tuple #[.agg #[.int .i64 L, .int .i64 T], .int .i64 E]) ∧ Below w.heap.size w w' ∧ w.heap.size ≤ w'.heap.size
theorem RefRet.mk0 {w w' L T T' E E' v} (hv : v = .tuple #[.agg #[.int .i64 L, .int .i64 T], .int .i64 E]) (hT : T = T') (hE : E = E') (hb : Below w.heap.size w w') : RefRet w L T' E' (.returned v) w' := by
  subst hv hT hE; exact ⟨rfl, hb, hb.size⟩

theorem reftake_c (w : World) (L T n : Int) (hL0 : 0 ≤ L) (hL : L ≤ 1048576) (hT0 : 0 ≤ T) (hT : T ≤ 1048576) :
    Calls Try.prog 14 #[.agg #[.int .i64 L, .int .i64 T], .int .i64 n] w (RefRet w L (takeT L T n) (takeE L T n)) := by
  by_cases h1 : n < 0
  · go_enter Try.func14, Try.ntmps14
    go_wp2
    refine bodyPost_ret (v := .tuple #[.agg #[.int .i64 L, .int .i64 T], .int .i64 1]) (by simp [results, Try.results14, go_sem]) rfl ?_
    exact .mk0 rfl (by simp [takeT, h1]) (by simp [takeE, h1]) (((Below.refl _ _).alloc (Nat.le_refl _) _).alloc (by simp) _)
  · by_cases h2 : n > roomF L T
    · go_enter Try.func14, Try.ntmps14
      go_wp2_with fail
      refine (refroom_c _ L T hL0 hL hT0 hT).mono ?_
      rintro e w1 ⟨rfl, o, rfl⟩
      go_wp2_with fail
      refine bodyPost_ret (v := .tuple #[.agg #[.int .i64 L, .int .i64 T], .int .i64 13]) (by simp [results, Try.results14, go_sem]) rfl ?_
      exact .mk0 rfl (by simp [takeT, h2]) (by simp [takeE, h2]; omega) ((((Below.refl _ _).alloc (Nat.le_refl _) _).alloc (by simp) _).alloc (by simp; omega) _)
    · have hr : roomF L T ≤ 1048576 := by unfold roomF; split <;> omega
      have hr2 : n ≤ roomF L T := by omega
      go_enter Try.func14, Try.ntmps14
      go_wp2_with fail
      refine (refroom_c _ L T hL0 hL hT0 hT).mono ?_
      rintro e w1 ⟨rfl, o, rfl⟩
      go_wp2_with fail
      refine bodyPost_ret (v := .tuple #[.agg #[.int .i64 L, .int .i64 (T + n)], .int .i64 0]) (by simp [results, Try.results14, go_sem]) rfl ?_
      exact .mk0 rfl (by simp only [takeT]; rw [if_neg (by omega), if_neg (by omega)]) (by simp only [takeE]; rw [if_neg (by omega), if_neg (by omega)]) ((((Below.refl _ _).alloc (Nat.le_refl _) _).alloc (by simp) _).alloc (by simp; omega) _)

theorem refgive_c (w : World) (L T n : Int) (hT0 : 0 ≤ T) (hT : T ≤ 1048576) :
    Calls Try.prog 16 #[.agg #[.int .i64 L, .int .i64 T], .int .i64 n] w (RefRet w L (giveT T n) (giveE T n)) := by
  by_cases h1 : n < 0
  · go_enter Try.func16, Try.ntmps16
    go_wp2
    refine bodyPost_ret (v := .tuple #[.agg #[.int .i64 L, .int .i64 T], .int .i64 1]) (by simp [results, Try.results16, go_sem]) rfl ?_
    exact .mk0 rfl (by simp [giveT, h1]) (by simp [giveE, h1]) (((Below.refl _ _).alloc (Nat.le_refl _) _).alloc (by simp) _)
  · by_cases h2 : n > T
    · go_enter Try.func16, Try.ntmps16
      go_wp2
      refine bodyPost_ret (v := .tuple #[.agg #[.int .i64 L, .int .i64 T], .int .i64 1]) (by simp [results, Try.results16, go_sem]) rfl ?_
      exact .mk0 rfl (by simp [giveT, h2]) (by simp [giveE, h2]) (((Below.refl _ _).alloc (Nat.le_refl _) _).alloc (by simp) _)
    · go_enter Try.func16, Try.ntmps16
      go_wp2
      refine bodyPost_ret (v := .tuple #[.agg #[.int .i64 L, .int .i64 (T - n)], .int .i64 0]) (by simp [results, Try.results16, go_sem]) rfl ?_
      exact .mk0 rfl (by simp only [giveT]; rw [if_neg (by omega), if_neg (by omega)]) (by simp only [giveE]; rw [if_neg (by omega), if_neg (by omega)]) (((Below.refl _ _).alloc (Nat.le_refl _) _).alloc (by simp) _)

/-! ### of nil -/
theorem taken_nil (w : World) : Calls Try.prog 18 #[.pointer none] w fun e w' => e = .returned (.int .i64 0) ∧ w = w' := by
  go_enter Try.func18, Try.ntmps18
  go_wp2
  go_ret
  exact ⟨rfl, rfl⟩
theorem room_nil (w : World) : Calls Try.prog 19 #[.pointer none] w fun e w' => e = .returned (.int .i64 0) ∧ w = w' := by
  go_enter Try.func19, Try.ntmps19
  go_wp2
  go_ret
  exact ⟨rfl, rfl⟩
theorem set_nil (w : World) (n : Int) : Calls Try.prog 17 #[.pointer none, .int .i64 n] w fun e w' => e = .returned (.tuple #[]) ∧ w = w' := by
  go_enter Try.func17, Try.ntmps17
  go_wp2
  go_end0
  exact ⟨rfl, rfl⟩
def fullE (n : Int) : Int := if n < 0 then 1 else if n > 0 then 13 else 0
def formE (n : Int) : Int := if n < 0 then 1 else if n > 0 then 1 else 0
theorem take_nil (w : World) (n : Int) : Calls Try.prog 13 #[.pointer none, .int .i64 n] w fun e w' => e = .returned (.int .i64 (fullE n)) ∧ w = w' := by
  rcases Int.lt_trichotomy n 0 with h | h | h
  · go_enter Try.func13, Try.ntmps13
    go_wp2_with fail
    go_in
    go_wp2_with fail
    go_ret
    exact ⟨ret_int (by unfold fullE; rw [if_pos h]), rfl⟩
  · subst h
    go_enter Try.func13, Try.ntmps13
    go_wp2_with fail
    go_in
    go_wp2_with fail
    refine (room_nil _).mono ?_
    rintro e w1 ⟨rfl, rfl⟩
    go_wp2_with fail
    go_ret
    exact ⟨rfl, rfl⟩
  · go_enter Try.func13, Try.ntmps13
    go_wp2_with fail
    go_in
    go_wp2_with fail
    refine (room_nil _).mono ?_
    rintro e w1 ⟨rfl, rfl⟩
    go_wp2_with fail
    go_ret
    exact ⟨ret_int (by unfold fullE; rw [if_neg (by omega), if_pos h]), rfl⟩
theorem give_nil (w : World) (n : Int) : Calls Try.prog 15 #[.pointer none, .int .i64 n] w fun e w' => e = .returned (.int .i64 (formE n)) ∧ w = w' := by
  rcases Int.lt_trichotomy n 0 with h | h | h
  · go_enter Try.func15, Try.ntmps15
    go_wp2_with fail
    go_in
    go_wp2_with fail
    go_ret
    exact ⟨ret_int (by unfold formE; rw [if_pos h]), rfl⟩
  · subst h
    go_enter Try.func15, Try.ntmps15
    go_wp2_with fail
    go_in
    go_wp2_with fail
    refine (taken_nil _).mono ?_
    rintro e w1 ⟨rfl, rfl⟩
    go_wp2_with fail
    go_ret
    exact ⟨rfl, rfl⟩
  · go_enter Try.func15, Try.ntmps15
    go_wp2_with fail
    go_in
    go_wp2_with fail
    refine (taken_nil _).mono ?_
    rintro e w1 ⟨rfl, rfl⟩
    go_wp2_with fail
    go_ret
    exact ⟨ret_int (by unfold formE; rw [if_neg (by omega), if_pos h]), rfl⟩
end Go.Proofs.Ytogflpgeaobocaa
