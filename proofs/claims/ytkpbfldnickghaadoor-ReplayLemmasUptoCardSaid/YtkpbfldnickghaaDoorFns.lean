/- The table of the functions that are evaluated. -/
import Derived.Test.YtkpbfldnickghaaDoorFns0
import Derived.Test.YtkpbfldnickghaaDoorFns1
namespace Go.Proofs.YtkpbfldnickghaaDoor
open Go Go.PE
def tab : List (Nat × PFunc) := [(3, p3), (4, p4), (5, p5), (6, p6), (7, p7), (8, p8), (9, p9), (10, p10), (11, p11), (12, p12), (13, p13), (14, p14), (15, p15), (16, p16), (17, p17), (18, p18), (19, p19), (20, p20), (21, p21), (22, p22), (23, p23), (24, p24), (25, p25), (26, p26), (27, p27), (28, p28), (29, p29), (30, p30), (31, p31), (32, p32), (33, p33), (34, p34), (35, p35), (36, p36), (38, p38), (39, p39), (40, p40), (41, p41), (42, p42), (43, p43), (45, p45), (46, p46), (47, p47), (48, p48), (49, p49), (50, p50), (51, p51), (52, p52), (53, p53), (54, p54), (56, p56), (57, p57), (58, p58), (59, p59), (61, p61), (62, p62), (63, p63), (64, p64), (65, p65), (66, p66), (67, p67), (70, p70), (72, p72), (73, p73), (74, p74), (90, p90), (91, p91), (92, p92), (93, p93)]
def C : Funcs := fun f => (tab.find? fun x => x.1 == f).map (·.2)
theorem C3 : C 3 = some p3 := rfl
theorem C4 : C 4 = some p4 := rfl
theorem C5 : C 5 = some p5 := rfl
theorem C6 : C 6 = some p6 := rfl
theorem C7 : C 7 = some p7 := rfl
theorem C8 : C 8 = some p8 := rfl
theorem C9 : C 9 = some p9 := rfl
theorem C10 : C 10 = some p10 := rfl
theorem C11 : C 11 = some p11 := rfl
theorem C12 : C 12 = some p12 := rfl
theorem C13 : C 13 = some p13 := rfl
theorem C14 : C 14 = some p14 := rfl
theorem C15 : C 15 = some p15 := rfl
theorem C16 : C 16 = some p16 := rfl
theorem C17 : C 17 = some p17 := rfl
theorem C18 : C 18 = some p18 := rfl
theorem C19 : C 19 = some p19 := rfl
theorem C20 : C 20 = some p20 := rfl
theorem C21 : C 21 = some p21 := rfl
theorem C22 : C 22 = some p22 := rfl
theorem C23 : C 23 = some p23 := rfl
theorem C24 : C 24 = some p24 := rfl
theorem C25 : C 25 = some p25 := rfl
theorem C26 : C 26 = some p26 := rfl
theorem C27 : C 27 = some p27 := rfl
theorem C28 : C 28 = some p28 := rfl
theorem C29 : C 29 = some p29 := rfl
theorem C30 : C 30 = some p30 := rfl
theorem C31 : C 31 = some p31 := rfl
theorem C32 : C 32 = some p32 := rfl
theorem C33 : C 33 = some p33 := rfl
theorem C34 : C 34 = some p34 := rfl
theorem C35 : C 35 = some p35 := rfl
theorem C36 : C 36 = some p36 := rfl
theorem C38 : C 38 = some p38 := rfl
theorem C39 : C 39 = some p39 := rfl
theorem C40 : C 40 = some p40 := rfl
theorem C41 : C 41 = some p41 := rfl
theorem C42 : C 42 = some p42 := rfl
theorem C43 : C 43 = some p43 := rfl
theorem C45 : C 45 = some p45 := rfl
theorem C46 : C 46 = some p46 := rfl
theorem C47 : C 47 = some p47 := rfl
theorem C48 : C 48 = some p48 := rfl
theorem C49 : C 49 = some p49 := rfl
theorem C50 : C 50 = some p50 := rfl
theorem C51 : C 51 = some p51 := rfl
theorem C52 : C 52 = some p52 := rfl
theorem C53 : C 53 = some p53 := rfl
theorem C54 : C 54 = some p54 := rfl
theorem C56 : C 56 = some p56 := rfl
theorem C57 : C 57 = some p57 := rfl
theorem C58 : C 58 = some p58 := rfl
theorem C59 : C 59 = some p59 := rfl
theorem C61 : C 61 = some p61 := rfl
theorem C62 : C 62 = some p62 := rfl
theorem C63 : C 63 = some p63 := rfl
theorem C64 : C 64 = some p64 := rfl
theorem C65 : C 65 = some p65 := rfl
theorem C66 : C 66 = some p66 := rfl
theorem C67 : C 67 = some p67 := rfl
theorem C70 : C 70 = some p70 := rfl
theorem C72 : C 72 = some p72 := rfl
theorem C73 : C 73 = some p73 := rfl
theorem C74 : C 74 = some p74 := rfl
theorem C90 : C 90 = some p90 := rfl
theorem C91 : C 91 = some p91 := rfl
theorem C92 : C 92 = some p92 := rfl
theorem C93 : C 93 = some p93 := rfl
theorem all_ok : ∀ x ∈ tab, FuncOK Tryd.prog x.1 x.2 :=
  List.forall_mem_cons.2 ⟨fok3,
  List.forall_mem_cons.2 ⟨fok4,
  List.forall_mem_cons.2 ⟨fok5,
  List.forall_mem_cons.2 ⟨fok6,
  List.forall_mem_cons.2 ⟨fok7,
  List.forall_mem_cons.2 ⟨fok8,
  List.forall_mem_cons.2 ⟨fok9,
  List.forall_mem_cons.2 ⟨fok10,
  List.forall_mem_cons.2 ⟨fok11,
  List.forall_mem_cons.2 ⟨fok12,
  List.forall_mem_cons.2 ⟨fok13,
  List.forall_mem_cons.2 ⟨fok14,
  List.forall_mem_cons.2 ⟨fok15,
  List.forall_mem_cons.2 ⟨fok16,
  List.forall_mem_cons.2 ⟨fok17,
  List.forall_mem_cons.2 ⟨fok18,
  List.forall_mem_cons.2 ⟨fok19,
  List.forall_mem_cons.2 ⟨fok20,
  List.forall_mem_cons.2 ⟨fok21,
  List.forall_mem_cons.2 ⟨fok22,
  List.forall_mem_cons.2 ⟨fok23,
  List.forall_mem_cons.2 ⟨fok24,
  List.forall_mem_cons.2 ⟨fok25,
  List.forall_mem_cons.2 ⟨fok26,
  List.forall_mem_cons.2 ⟨fok27,
  List.forall_mem_cons.2 ⟨fok28,
  List.forall_mem_cons.2 ⟨fok29,
  List.forall_mem_cons.2 ⟨fok30,
  List.forall_mem_cons.2 ⟨fok31,
  List.forall_mem_cons.2 ⟨fok32,
  List.forall_mem_cons.2 ⟨fok33,
  List.forall_mem_cons.2 ⟨fok34,
  List.forall_mem_cons.2 ⟨fok35,
  List.forall_mem_cons.2 ⟨fok36,
  List.forall_mem_cons.2 ⟨fok38,
  List.forall_mem_cons.2 ⟨fok39,
  List.forall_mem_cons.2 ⟨fok40,
  List.forall_mem_cons.2 ⟨fok41,
  List.forall_mem_cons.2 ⟨fok42,
  List.forall_mem_cons.2 ⟨fok43,
  List.forall_mem_cons.2 ⟨fok45,
  List.forall_mem_cons.2 ⟨fok46,
  List.forall_mem_cons.2 ⟨fok47,
  List.forall_mem_cons.2 ⟨fok48,
  List.forall_mem_cons.2 ⟨fok49,
  List.forall_mem_cons.2 ⟨fok50,
  List.forall_mem_cons.2 ⟨fok51,
  List.forall_mem_cons.2 ⟨fok52,
  List.forall_mem_cons.2 ⟨fok53,
  List.forall_mem_cons.2 ⟨fok54,
  List.forall_mem_cons.2 ⟨fok56,
  List.forall_mem_cons.2 ⟨fok57,
  List.forall_mem_cons.2 ⟨fok58,
  List.forall_mem_cons.2 ⟨fok59,
  List.forall_mem_cons.2 ⟨fok61,
  List.forall_mem_cons.2 ⟨fok62,
  List.forall_mem_cons.2 ⟨fok63,
  List.forall_mem_cons.2 ⟨fok64,
  List.forall_mem_cons.2 ⟨fok65,
  List.forall_mem_cons.2 ⟨fok66,
  List.forall_mem_cons.2 ⟨fok67,
  List.forall_mem_cons.2 ⟨fok70,
  List.forall_mem_cons.2 ⟨fok72,
  List.forall_mem_cons.2 ⟨fok73,
  List.forall_mem_cons.2 ⟨fok74,
  List.forall_mem_cons.2 ⟨fok90,
  List.forall_mem_cons.2 ⟨fok91,
  List.forall_mem_cons.2 ⟨fok92,
  List.forall_mem_cons.2 ⟨fok93,
  fun _ h => by cases h⟩⟩⟩⟩⟩⟩⟩⟩⟩⟩⟩⟩⟩⟩⟩⟩⟩⟩⟩⟩⟩⟩⟩⟩⟩⟩⟩⟩⟩⟩⟩⟩⟩⟩⟩⟩⟩⟩⟩⟩⟩⟩⟩⟩⟩⟩⟩⟩⟩⟩⟩⟩⟩⟩⟩⟩⟩⟩⟩⟩⟩⟩⟩⟩⟩⟩⟩⟩⟩
theorem hC : ∀ f pf, C f = some pf → FuncOK Tryd.prog f pf := by
  intro f pf h
  unfold C at h
  obtain ⟨x, hx, rfl⟩ := Option.map_eq_some_iff.1 h
  have h1 := all_ok x (List.mem_of_find?_eq_some hx)
  have h2 : x.1 = f := by simpa using List.find?_some hx
  rw [← h2]
  exact h1
end Go.Proofs.YtkpbfldnickghaaDoor
