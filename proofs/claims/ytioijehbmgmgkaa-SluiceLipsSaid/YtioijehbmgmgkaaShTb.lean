/- The tables are what the program's functions become. -/
import Derived.Test.YtioijehbmgmgkaaM3
import Derived.Test.YtioijehbmgmgkaaH43
import Derived.Test.YtioijehbmgmgkaaProg
set_option linter.all false
namespace Go.Proofs.Ytioijehbmgmgkaa.Sh
open Go
theorem c3 : compFunc Try.prog Try.f3 = some sf3 := by kernel_rfl
theorem c16 : compFunc Try.prog Try.f16 = some sf16 := by kernel_rfl
theorem c53 : compFunc Try.prog Try.f53 = some sf53 := by kernel_rfl
theorem c40 : compFunc Try.prog Try.f40 = some sf40 := by kernel_rfl
theorem c76 : compFunc Try.prog Try.f76 = some sf76 := by kernel_rfl
theorem c17 : compFunc Try.prog Try.f17 = some sf17 := by kernel_rfl
theorem c42 : compFunc Try.prog Try.f42 = some sf42 := by kernel_rfl
theorem c18 : compFunc Try.prog Try.f18 = some sf18 := by kernel_rfl
theorem c51 : compFunc Try.prog Try.f51 = some sf51 := by kernel_rfl
theorem c80 : compFunc Try.prog Try.f80 = some sf80 := by kernel_rfl
theorem c94 : compFunc Try.prog Try.f94 = some sf94 := by kernel_rfl
theorem c93 : compFunc Try.prog Try.f93 = some sf93 := by kernel_rfl
theorem c106 : compFunc Try.prog Try.f106 = some sf106 := by kernel_rfl
theorem c74 : compFunc Try.prog Try.f74 = some sf74 := by kernel_rfl
theorem c91 : compFunc Try.prog Try.f91 = some sf91 := by kernel_rfl
theorem c105 : compFunc Try.prog Try.f105 = some sf105 := by kernel_rfl
theorem c54 : compFunc Try.prog Try.f54 = some sf54 := by kernel_rfl
theorem c55 : compFunc Try.prog Try.f55 = some sf55 := by kernel_rfl
theorem c81 : compFunc Try.prog Try.f81 = some sf81 := by kernel_rfl
theorem c82 : compFunc Try.prog Try.f82 = some sf82 := by kernel_rfl
theorem c72 : compFunc Try.prog Try.f72 = some sf72 := by kernel_rfl
theorem c90 : compFunc Try.prog Try.f90 = some sf90 := by kernel_rfl
theorem c103 : compFunc Try.prog Try.f103 = some sf103 := by kernel_rfl
theorem c104 : compFunc Try.prog Try.f104 = some sf104 := by kernel_rfl
theorem c89 : compFunc Try.prog Try.f89 = some sf89 := by kernel_rfl
theorem c95 : compFunc Try.prog Try.f95 = some sf95 := by kernel_rfl
theorem c96 : compFunc Try.prog Try.f96 = some sf96 := by kernel_rfl
theorem c107 : compFunc Try.prog Try.f107 = some sf107 := by kernel_rfl
theorem c97 : compFunc Try.prog Try.f97 = some sf97 := by kernel_rfl
theorem c108 : compFunc Try.prog Try.f108 = some sf108 := by kernel_rfl
theorem c109 : compFunc Try.prog Try.f109 = some sf109 := by kernel_rfl
theorem c98 : compFunc Try.prog Try.f98 = some sf98 := by kernel_rfl
theorem c110 : compFunc Try.prog Try.f110 = some sf110 := by kernel_rfl
theorem c111 : compFunc Try.prog Try.f111 = some sf111 := by kernel_rfl
theorem c112 : compFunc Try.prog Try.f112 = some sf112 := by kernel_rfl
theorem c99 : compFunc Try.prog Try.f99 = some sf99 := by kernel_rfl
theorem c100 : compFunc Try.prog Try.f100 = some sf100 := by kernel_rfl
theorem c101 : compFunc Try.prog Try.f101 = some sf101 := by kernel_rfl
theorem c102 : compFunc Try.prog Try.f102 = some sf102 := by kernel_rfl
theorem c83 : compFunc Try.prog Try.f83 = some sf83 := by kernel_rfl
theorem c56 : compFunc Try.prog Try.f56 = some sf56 := by kernel_rfl
theorem c57 : compFunc Try.prog Try.f57 = some sf57 := by kernel_rfl
theorem c19 : compFunc Try.prog Try.f19 = some sf19 := by kernel_rfl
theorem c20 : compFunc Try.prog Try.f20 = some sf20 := by kernel_rfl
theorem c33 : compFunc Try.prog Try.f33 = some sf33 := by kernel_rfl
theorem c64 : compFunc Try.prog Try.f64 = some sf64 := by kernel_rfl
theorem c65 : compFunc Try.prog Try.f65 = some sf65 := by kernel_rfl
theorem c59 : compFunc Try.prog Try.f59 = some sf59 := by kernel_rfl
theorem c60 : compFunc Try.prog Try.f60 = some sf60 := by kernel_rfl
theorem c84 : compFunc Try.prog Try.f84 = some sf84 := by kernel_rfl
theorem c78 : compFunc Try.prog Try.f78 = some sf78 := by kernel_rfl
theorem c85 : compFunc Try.prog Try.f85 = some sf85 := by kernel_rfl
theorem c86 : compFunc Try.prog Try.f86 = some sf86 := by kernel_rfl
theorem c87 : compFunc Try.prog Try.f87 = some sf87 := by kernel_rfl
theorem c66 : compFunc Try.prog Try.f66 = some sf66 := by kernel_rfl
theorem c69 : compFunc Try.prog Try.f69 = some sf69 := by kernel_rfl
theorem c79 : compFunc Try.prog Try.f79 = some sf79 := by kernel_rfl
theorem c92 : compFunc Try.prog Try.f92 = some sf92 := by kernel_rfl
theorem c21 : compFunc Try.prog Try.f21 = some sf21 := by kernel_rfl
theorem c58 : compFunc Try.prog Try.f58 = some sf58 := by kernel_rfl
theorem c44 : compFunc Try.prog Try.f44 = some sf44 := by kernel_rfl
theorem c70 : compFunc Try.prog Try.f70 = some sf70 := by kernel_rfl
theorem c26 : compFunc Try.prog Try.f26 = some sf26 := by kernel_rfl
theorem tab : Tab Try.prog FT := by
  intro f sf h
  unfold FT at h
  split at h
  · cases h; exact ⟨_, Try.func3, c3⟩
  · cases h; exact ⟨_, Try.func16, c16⟩
  · cases h; exact ⟨_, Try.func53, c53⟩
  · cases h; exact ⟨_, Try.func40, c40⟩
  · cases h; exact ⟨_, Try.func76, c76⟩
  · cases h; exact ⟨_, Try.func17, c17⟩
  · cases h; exact ⟨_, Try.func42, c42⟩
  · cases h; exact ⟨_, Try.func18, c18⟩
  · cases h; exact ⟨_, Try.func51, c51⟩
  · cases h; exact ⟨_, Try.func80, c80⟩
  · cases h; exact ⟨_, Try.func94, c94⟩
  · cases h; exact ⟨_, Try.func93, c93⟩
  · cases h; exact ⟨_, Try.func106, c106⟩
  · cases h; exact ⟨_, Try.func74, c74⟩
  · cases h; exact ⟨_, Try.func91, c91⟩
  · cases h; exact ⟨_, Try.func105, c105⟩
  · cases h; exact ⟨_, Try.func54, c54⟩
  · cases h; exact ⟨_, Try.func55, c55⟩
  · cases h; exact ⟨_, Try.func81, c81⟩
  · cases h; exact ⟨_, Try.func82, c82⟩
  · cases h; exact ⟨_, Try.func72, c72⟩
  · cases h; exact ⟨_, Try.func90, c90⟩
  · cases h; exact ⟨_, Try.func103, c103⟩
  · cases h; exact ⟨_, Try.func104, c104⟩
  · cases h; exact ⟨_, Try.func89, c89⟩
  · cases h; exact ⟨_, Try.func95, c95⟩
  · cases h; exact ⟨_, Try.func96, c96⟩
  · cases h; exact ⟨_, Try.func107, c107⟩
  · cases h; exact ⟨_, Try.func97, c97⟩
  · cases h; exact ⟨_, Try.func108, c108⟩
  · cases h; exact ⟨_, Try.func109, c109⟩
  · cases h; exact ⟨_, Try.func98, c98⟩
  · cases h; exact ⟨_, Try.func110, c110⟩
  · cases h; exact ⟨_, Try.func111, c111⟩
  · cases h; exact ⟨_, Try.func112, c112⟩
  · cases h; exact ⟨_, Try.func99, c99⟩
  · cases h; exact ⟨_, Try.func100, c100⟩
  · cases h; exact ⟨_, Try.func101, c101⟩
  · cases h; exact ⟨_, Try.func102, c102⟩
  · cases h; exact ⟨_, Try.func83, c83⟩
  · cases h; exact ⟨_, Try.func56, c56⟩
  · cases h; exact ⟨_, Try.func57, c57⟩
  · cases h; exact ⟨_, Try.func19, c19⟩
  · cases h; exact ⟨_, Try.func20, c20⟩
  · cases h; exact ⟨_, Try.func33, c33⟩
  · cases h; exact ⟨_, Try.func64, c64⟩
  · cases h; exact ⟨_, Try.func65, c65⟩
  · cases h; exact ⟨_, Try.func59, c59⟩
  · cases h; exact ⟨_, Try.func60, c60⟩
  · cases h; exact ⟨_, Try.func84, c84⟩
  · cases h; exact ⟨_, Try.func78, c78⟩
  · cases h; exact ⟨_, Try.func85, c85⟩
  · cases h; exact ⟨_, Try.func86, c86⟩
  · cases h; exact ⟨_, Try.func87, c87⟩
  · cases h; exact ⟨_, Try.func66, c66⟩
  · cases h; exact ⟨_, Try.func69, c69⟩
  · cases h; exact ⟨_, Try.func79, c79⟩
  · cases h; exact ⟨_, Try.func92, c92⟩
  · cases h; exact ⟨_, Try.func21, c21⟩
  · cases h; exact ⟨_, Try.func58, c58⟩
  · cases h; exact ⟨_, Try.func44, c44⟩
  · cases h; exact ⟨_, Try.func70, c70⟩
  · cases h; exact ⟨_, Try.func26, c26⟩
  · cases h
theorem mixed : Try.prog.follows .mixedOrders = true := by kernel_rfl
theorem snd (n : Nat) : Sound Try.prog (run FT n) n := sound mixed tab n
end Go.Proofs.Ytioijehbmgmgkaa.Sh

