/- (*strings.Builder).String: the shelf's contract lies in the seat's Shelf. -/
import Derived.Test.YtaojlnibkajfbaaDoorShelf
namespace Go.Proofs.YtaojlnibkajfbaaDoor
end Go.Proofs.YtaojlnibkajfbaaDoor
